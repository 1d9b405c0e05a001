/- Part of the proof of the tied card of CareTexts: items, keys, forests: plain. Conditions: none of its own. -/
import Derived.Test.YtenfndlbldffgaaGreatDoorCc
set_option autoImplicit false
set_option linter.unusedVariables false
set_option linter.unusedSimpArgs false
set_option maxRecDepth 100000
namespace Go.Vi
open Go Go.Vi Go.Proofs
attribute [local irreducible] vops vopsD vc
def indexE (i : Int) : Int × Int := if i < 0 then (0, 5) else (i, 0)
theorem typeE_ok {b : PB} {n : ByteArray} (h : baseOk b = true) : typeE b n = indexE (fidx (nameIs n) (b.types.map encT)) := by
 rw [typeE, if_pos h, indexE, fidx]
 cases (b.types.map encT).findIdx? (nameIs n) with
 | none => rfl
 | some i => simp
set_option maxHeartbeats 4000000 in
theorem zIndex (G : Glob) (i : Int) : Vi.Fn Tryz.prog G 82 [.int .i64 i] (.tup [.int .i64 (indexE i).1, .int .i64 (indexE i).2]) := by
 refine fn_body (fun _ => .iso) Tryz.func82 rfl ?_
 refine vc_norm (env' := [_, _, _, _, _, _, _]) (H' := []) rfl rfl ?_
 refine vs (wr ?_)
 iterate 2 refine wN rfl rfl rfl (v7 rfl ?_)
 refine we rfl (vs (vs (wr ?_)))
 iterate 2 refine wN rfl rfl rfl (v7 rfl ?_)
 refine we rfl ?_
 refine vc_cond rfl (fun hc5 => ?_) (fun hc5 => ?_)
 ·
  refine vs (wr ?_)
  iterate 2 refine wN rfl rfl rfl (v7 rfl ?_)
  refine we rfl (vc_ret (r_then (r_fn rfl ?_)))
  rw [indexE, if_pos (of_decide_eq_true hc5)]
  rfl
 ·
  refine vc_skip (n_then (vs (wr ?_)))
  iterate 3 refine wN rfl rfl rfl (v7 rfl ?_)
  refine we rfl (vc_ret (r_fn rfl ?_))
  rw [indexE, if_neg (of_decide_eq_false hc5)]
  rfl
set_option maxHeartbeats 4000000 in
theorem zTypeNm (G : Glob) (u : PT) (n : ByteArray) (bo : Bool) : Vi.Fn Tryz.prog G 84 [.agg (encT u), .iptr bo [.str n]] (.bool (seq u.name n)) := by
 refine fn_body (fun _ => .iso) Tryz.func84 rfl ?_
 refine vc_norm (env' := [_, _, _, _, _, _, _, _]) (H' := []) rfl rfl ?_
 refine vs (wr ?_)
 refine w_opH (v := .ptr 0 0 0) (env' := _) (H2 := [.arr 62 8 [[_, _, _, _, _, _, _, _]]]) rfl rfl rfl rfl (fun _ h => h) (v8 rfl ?_)
 refine wN rfl rfl rfl (v8 rfl ?_)
 refine we rfl (vs (wr ?_))
 refine wN (v := .ptr 0 0 0) rfl rfl rfl (v8 rfl ?_)
 iterate 4 refine wN rfl rfl rfl (v8 rfl ?_)
 refine we rfl (vc_ret (r_fn rfl ?_))
 rfl
set_option maxHeartbeats 4000000 in
theorem zType (G : Glob) (b : PB) (hb : BaseV b) (n : ByteArray) : Vi.Fn Tryz.prog G 46 [.agg (encB b), .str n] (.tup [.int .i64 (typeE b n).1, .int .i64 (typeE b n).2]) := by
 have hL := hb.types.isL
 have hLs := hb.search.isL
 have htv := hb.txv
 have hsv := hb.sxv
 have hxl : (lrows b.tx).length = b.types.length := by rw [hb.types.rows]; simp
 have hx := hb.types
 have hidx := zIdxT G b.tx 84 [.iptr true [.str n]] (nameIs n) hL (by rw [hxl]; have := hx.len; omega) (fun r hr => by rw [hx.rows] at hr; obtain ⟨g, _, rfl⟩ := List.mem_map.1 hr; rfl) rfl (by kernel_rfl) (fun r hr => by rw [hx.rows] at hr; obtain ⟨g, hg, rfl⟩ := List.mem_map.1 hr; exact ⟨lend_agg (mapL_cons rfl (mapL_cons rfl (mapL_cons rfl (mapL_cons rfl (mapL_cons (hx.each g hg).fx.isL.lend0 rfl))))), zTypeNm G g n true⟩)
 rw [hx.rows] at hidx
 refine fn_body (fun _ => .iso) Tryz.func46 rfl ?_
 refine vc_norm (env' := [_, _, _, _, _, _, _, _, _, _, _, _, _, _, _, _, _, _, _]) (H' := []) rfl rfl ?_
 refine vs (wr ?_)
 refine w_opH (v := .ptr 0 0 0) (env' := _) (H2 := [.arr 25 4 [[_, _, _, _]]]) rfl rfl rfl rfl (fun _ h => h) (v19 rfl ?_)
 refine w_opH (v := .ptr 1 0 0) (env' := _) (H2 := [.arr 25 4 [[_, _, _, _]], .arr 9 1 [[_]]]) rfl rfl rfl rfl (fun _ h => h) (v19 rfl ?_)
 iterate 2 refine wN rfl rfl rfl (v19 rfl ?_)
 refine we rfl (vs (vs (wr ?_)))
 refine wN (v := .agg [_, _, _, _]) rfl rfl rfl (v19 rfl ?_)
 refine w_callI (env' := _) rfl rfl rfl (by kernel_rfl) rfl (by repeat' first | exact IsL.lend ‹_› | exact IsL.lend0 ‹_› | refine mapL_cons ?_ ?_ | refine lend_agg ?_ | rfl) (zAsked G b hb .nils [] (.inl rfl) rfl (by simp)) rfl (v19 rfl ?_)
 refine wN rfl rfl rfl (v19 rfl ?_)
 refine we rfl (vs (wr ?_))
 iterate 2 refine wN rfl rfl rfl (v19 rfl ?_)
 refine we rfl ?_
 refine vc_cond rfl (fun hc10 => ?_) (fun hc10 => ?_)
 ·
  have hv : ¬ baseOk b = true := by intro h; rw [askedE_nil, if_pos h] at hc10; simp at hc10
  refine vs (wr ?_)
  iterate 3 refine wN rfl rfl rfl (v19 rfl ?_)
  refine we rfl (vc_ret (r_then (r_fn rfl ?_)))
  rw [typeE, if_neg hv]
  rw [askedE_nil, if_neg hv]
  rfl
 ·
  have hv : baseOk b = true := by by_cases h : baseOk b = true; exact h; rw [askedE_nil, if_neg h] at hc10; simp at hc10
  refine vc_skip (n_then (vs (wr ?_)))
  refine wN (v := .ptr 0 0 2) rfl rfl rfl (v19 rfl ?_)
  iterate 2 refine wN rfl rfl rfl (v19 rfl ?_)
  refine w_callI (env' := _) rfl rfl rfl (by kernel_rfl) rfl (mapL_app hL.lend (mapL_cons (lend_cloG (mapL_cons (lend0_ptr rfl rfl (by simp [isVal_int, isVal_bool, isVal_str])) rfl)) rfl)) (hidx) rfl (v19 rfl ?_)
  refine w_callI (env' := _) rfl rfl rfl (by kernel_rfl) rfl (by repeat' first | exact IsL.lend ‹_› | exact IsL.lend0 ‹_› | refine mapL_cons ?_ ?_ | refine lend_agg ?_ | rfl) (zIndex G _) rfl (v19 rfl ?_)
  iterate 4 refine wN rfl rfl rfl (v19 rfl ?_)
  refine we rfl (vc_ret (r_fn rfl ?_))
  rw [typeE_ok hv]
  rfl
set_option maxHeartbeats 4000000 in
theorem zTypeR (G : Glob) (b : PB) (hb : BaseV b) (n : ByteArray) : Vi.Fn Tryz.prog G 50 [.agg (encB b), .str n] (.tup [.int .i64 (typeE b n).1, .int .i64 (typeE b n).2]) := by
 have hL := hb.types.isL
 have hLs := hb.search.isL
 have htv := hb.txv
 have hsv := hb.sxv
 have hxl : (lrows b.tx).length = b.types.length := by rw [hb.types.rows]; simp
 have hx := hb.types
 refine fn_body (fun _ => .iso) Tryz.func50 rfl ?_
 refine vc_norm (env' := (_ :: _ :: _ :: _ :: _ :: _ :: _ :: _ :: _ :: _ :: _ :: _ :: _ :: _ :: _ :: _ :: _ :: _ :: _ :: _ :: _ :: _ :: _ :: _ :: _ :: _ :: _ :: _ :: _ :: [])) (H' := []) rfl rfl ?_
 refine vs (wr ?_)
 refine w_opH (v := .ptr 0 0 0) (env' := _) (H2 := [.arr 25 4 [[_, _, _, _]]]) rfl rfl rfl rfl (fun _ h => h) (v29 rfl ?_)
 iterate 2 refine wN rfl rfl rfl (v29 rfl ?_)
 refine we rfl (vs (vs (wr ?_)))
 refine wN (v := .agg [_, _, _, _]) rfl rfl rfl (v29 rfl ?_)
 refine w_callI (env' := _) rfl rfl rfl (by kernel_rfl) rfl (by repeat' first | exact IsL.lend ‹_› | exact IsL.lend0 ‹_› | refine mapL_cons ?_ ?_ | refine lend_agg ?_ | rfl) (zAskedR G b hb .nils [] (.inl rfl) rfl (by simp)) rfl (v29 rfl ?_)
 refine wN rfl rfl rfl (v29 rfl ?_)
 refine we rfl (vs (wr ?_))
 iterate 2 refine wN rfl rfl rfl (v29 rfl ?_)
 refine we rfl ?_
 refine vc_cond rfl (fun hc11 => ?_) (fun hc11 => ?_)
 ·
  have hv : ¬ baseOk b = true := by intro h; rw [askedE_nil, if_pos h] at hc11; simp at hc11
  refine vs (wr ?_)
  iterate 3 refine wN rfl rfl rfl (v29 rfl ?_)
  refine we rfl (vc_ret (r_then (r_fn rfl ?_)))
  rw [typeE, if_neg hv]
  rw [askedE_nil, if_neg hv]
  rfl
 ·
  have hv : baseOk b = true := by by_cases h : baseOk b = true; exact h; rw [askedE_nil, if_neg h] at hc11; simp at hc11
  refine vc_skip (n_then (vs (vs (wr ?_))))
  refine wN rfl rfl rfl (v29 rfl ?_)
  refine we rfl (vc_block ?_)
  refine vc_loopU (α := { i : Nat // (∀ j r, j < i → (b.types.map encT)[j]? = some r → nameIs n r = false) ∧ i ≤ b.types.length }) (fun i => (rnone 4 ++ ([some .undef, some .undef, none, some (.int .i64 (i.1 : Nat))] ++ (rnone 5 ++ (rundef 16))))) (fun i => b.types.length - i.1) ⟨0, fun j r h => by omega, by omega⟩ (by repeat' first | exact trivial | refine ⟨.inr rfl, ?_⟩ | refine ⟨.inl rfl, ?_⟩ | fail) (fun _ => ⟨Nat.zero_le _, (by repeat' first | exact trivial | exact IsL.belowV ‹_› | refine ⟨?_, ?_⟩ | exact IsL.below ‹_› | (simp [valB, leafB, cellsB, IsL.below, *]; done) | (simp [valB, leafB, cellsB, IsL.below, *]; omega) | fail), (by repeat' first | exact trivial | exact IsL.below (by assumption) | refine ⟨?_, ?_⟩ | (simp [leafB]; done))⟩) ?_
  rintro ⟨i, hn, hi⟩ Y0 hY0
  refine vc_norm (env' := (_ :: _ :: _ :: _ :: _ :: _ :: _ :: (.int .i64 (i : Int)) :: _ :: _ :: _ :: _ :: _ :: _ :: _ :: _ :: _ :: _ :: _ :: _ :: _ :: _ :: _ :: _ :: _ :: _ :: _ :: _ :: _ :: [])) (H' := [.arr 25 4 [[_, _, _, _]]]) rfl rfl ?_
  refine vs (vs (wr ?_))
  refine wN rfl rfl rfl (v29 rfl ?_)
  refine wN (v := .ptr 0 0 2) rfl rfl rfl (v29 rfl ?_)
  refine wN rfl rfl rfl (v29 rfl ?_)
  first | refine wN rfl rfl rfl (v29 rfl ?_) | refine x_len rfl rfl ‹_› Tryz.underlying22 rfl (v29 rfl ?_)
  refine wN rfl rfl rfl (v29 rfl ?_)
  refine we rfl ?_
  refine vc_cond rfl (fun hc17 => ?_) (fun hc17 => ?_)
  ·
   have hlt : i < b.types.length := by have := of_decide_eq_true hc17; omega
   obtain ⟨u, hu⟩ : ∃ u, b.types[i]? = some u := ⟨_, List.getElem?_eq_getElem hlt⟩
   have hru : (b.types.map encT)[i]? = some (encT u) := by rw [List.getElem?_map, hu]; rfl
   have hri : (lrows b.tx)[i]? = some [.str u.name, .int .i64 u.parent, .int .i64 u.min, .int .i64 u.size, u.fx, .int .i64 u.key, .bool u.unique, .bool u.last] := by rw [hx.rows]; exact hru
   refine vc_skip (n_then (vs (vc_block (vs (wr ?_)))))
   refine wN (v := .ptr 0 0 2) rfl rfl rfl (v29 rfl ?_)
   iterate 2 refine wN rfl rfl rfl (v29 rfl ?_)
   first | refine wN (v := .iptr _ [_, _, _, _, _, _, _, _]) rfl rfl rfl (v29 rfl ?_) | (refine x_index rfl rfl ‹_› rfl el22 (by omega) ‹_› rfl (fun bo => ?_); refine v29 rfl ?_)
   refine wN (v := .iptr _ [_, _, _, _, _, _, _, _]) rfl rfl rfl (v29 rfl ?_)
   iterate 3 refine wN rfl rfl rfl (v29 rfl ?_)
   refine we rfl ?_
   refine vc_cond rfl (fun hc27 => ?_) (fun hc27 => ?_)
   ·
    refine vs (wr ?_)
    iterate 3 refine wN rfl rfl rfl (v29 rfl ?_)
    refine we rfl (vc_ret (r_block (r_then (r_then (r_block (r_then (r_fn rfl ?_)))))))
    rw [typeE_ok hv, fidx_at hn hru hc27, indexE, if_neg (by omega)]
    rfl
   ·
    refine vc_skip (n_block (n_then (wr ?_)))
    iterate 3 refine wN rfl rfl rfl (v29 rfl ?_)
    refine we rfl ?_
    refine hY0 ⟨i + 1, upto_succ hn hru hc27, hlt⟩ (by simp only; omega) _ _ _ ?_ rfl
    repeat' first | exact trivial | refine ⟨.inr rfl, ?_⟩ | refine ⟨.inl rfl, ?_⟩ | refine ⟨.inl ?_, ?_⟩ | fail
    all_goals first | (exact (int_succ (by have := hx.len; omega)).symm)
  ·
   have hge : ¬ i < b.types.length := by have := of_decide_eq_false hc17; omega
   refine vc_exit (x_then (x_then (x_same (n_then (vs (wr ?_))))))
   iterate 2 refine wN rfl rfl rfl (v29 rfl ?_)
   refine we rfl (vc_ret (r_fn rfl ?_))
   rw [typeE_ok hv, fidx_no hn (by simp; omega)]
   rfl
end Go.Vi
namespace Go.Vi
open Go Go.Vi Go.Proofs
attribute [local irreducible] vops vopsD vc
theorem el26 : elemAt Tryz.prog 26 = some (none, 64, 2) := by kernel_rfl
theorem sz64 : szOf Tryz.prog 64 = some 2 := by kernel_rfl
structure PI where
 type : Int
 data : ByteArray
def encI (x : PI) : List AV := [.int .i64 x.type, .str x.data]
structure ItemsIs (x : AV) (f : List PI) : Prop where
 isL : IsL x
 rows : lrows x = f.map encI
 short : ∀ y ∈ f, y.data.size < 9223372036854775808
 len : f.length < 9223372036854775808
theorem ItemsIs.at {x : AV} {f : List PI} (h : ItemsIs x f) {k : Nat} {y : PI} (hy : f[k]? = some y) : (lrows x)[k]? = some [.int .i64 y.type, .str y.data] := by
 rw [h.rows, List.getElem?_map, hy]; rfl
def fitsI (b : PB) (x : PI) : Bool := match (if x.type < 0 then none else b.types[x.type.toNat]?) with
 | some t => decide ((x.data.size : Int) ≥ t.min) && decide ((x.data.size : Int) ≤ t.size)
 | none => false
theorem fits_type {b : PB} {x : PI} (h : fitsI b x = true) : ∃ t, b.types[x.type.toNat]? = some t ∧ 0 ≤ x.type ∧ x.type < b.types.length ∧ t.min ≤ x.data.size ∧ x.data.size ≤ t.size := by
 unfold fitsI at h
 by_cases h0 : x.type < 0
 · rw [if_pos h0] at h; cases h
 · rw [if_neg h0] at h
   cases ht : b.types[x.type.toNat]? with
   | none => rw [ht] at h; cases h
   | some t =>
     rw [ht] at h
     simp at h
     have := (List.getElem?_eq_some_iff.1 ht).1
     exact ⟨t, rfl, by omega, by omega, by omega, by omega⟩
def keyOf (t : PT) (data : ByteArray) : ByteArray := if t.key < 0 then ⟨#[]⟩ else match t.fields[t.key.toNat]? with
 | some f => data.extract f.at_.toNat (f.at_ + f.bytes).toNat
 | none => ⟨#[]⟩
def KeyIn (t : PT) (data : ByteArray) : Prop := 0 ≤ t.key → ∃ f, t.fields[t.key.toNat]? = some f ∧ 0 ≤ f.at_ ∧ 0 ≤ f.bytes ∧ f.at_ + f.bytes ≤ data.size
def inOrderP (t : PT) (a c : ByteArray) : Bool := if t.key < 0 then true else sless (keyOf t a) (keyOf t c) || (seq (keyOf t a) (keyOf t c) && !t.unique)
theorem ok_types {b : PB} (h : baseOk b = true) {i : Nat} {t : PT} (ht : b.types[i]? = some t) : typeOk t = true := by
 rw [valid_eq] at h
 simp only [refOk, Bool.and_eq_true] at h
 have := List.all_eq_true.1 h.1.2 i (List.mem_range.2 (List.getElem?_eq_some_iff.1 ht).1)
 simp only [refTypeAt, ht, refType, Bool.and_eq_true] at this
 rw [← type_eq]
 exact this.1.1
theorem key_in {t : PT} {data : ByteArray} (h : typeOk t = true) (hm : t.min ≤ data.size) : KeyIn t data := by
 intro hk
 obtain ⟨f, hf⟩ : ∃ f, t.fields[t.key.toNat]? = some f := ⟨_, List.getElem?_eq_getElem (typeOk_key h hk)⟩
 simp only [typeOk, Bool.and_eq_true] at h
 obtain ⟨h1, h2⟩ := h
 rw [if_neg (by omega)] at h2
 split at h2
 · cases h2
 · simp only [keyOk, hf, decide_eq_true_eq] at h2
   simp only [typeHead, Bool.not_eq_true', Bool.or_eq_false_iff, Bool.not_eq_false'] at h1
   have := fieldOk_bounds (fields_get h1.2 hf)
   exact ⟨f, hf, by omega, by omega, by omega⟩
theorem s_slice {P : Program} {H : Hp} {t : TypeId} {s : ByteArray} {k1 k2 : IntKind} {a z : Int} (hu : P.underlying t = some .string) (h0 : 0 ≤ a) (h1 : a ≤ z) (h2 : z ≤ s.size) : (vslice P H t (.str s) (some (.int k1 a)) (some (.int k2 z)) none).map (·, H) = some (.str (s.extract a.toNat z.toNat), H) := by
 have h : vbounds s.size (some (.int k1 a)) (some (.int k2 z)) none = some (a.toNat, z.toNat, none) := by
  have e1 : a.toNat ≤ z.toNat := by omega
  have e2 : z.toNat ≤ s.size := by omega
  have e3 : 0 ≤ z := by omega
  simp [vbounds, bnd, h0, e1, e2, e3]
 simp only [vslice, hu, h, Option.map_some]
set_option maxHeartbeats 8000000 in
theorem zFits (G : Glob) (b : PB) (hb : BaseV b) (x : PI) (hs : x.data.size < 9223372036854775808) : Vi.Fn Tryz.prog G 126 [.agg (encB b), .agg (encI x)] (.bool (fitsI b x)) := by
 have hL := hb.types.isL
 have hLs := hb.search.isL
 have htv := hb.txv
 have hsv := hb.sxv
 have hxl : (lrows b.tx).length = b.types.length := by rw [hb.types.rows]; simp
 refine fn_body (fun _ => .iso) Tryz.func126 rfl ?_
 refine vc_norm (env' := (_ :: _ :: _ :: _ :: _ :: _ :: _ :: _ :: _ :: _ :: _ :: _ :: _ :: _ :: _ :: _ :: _ :: _ :: _ :: _ :: _ :: _ :: _ :: _ :: _ :: _ :: _ :: _ :: _ :: _ :: _ :: _ :: _ :: _ :: _ :: _ :: _ :: _ :: _ :: _ :: _ :: _ :: [])) (H' := []) rfl rfl ?_
 refine vs (wr ?_)
 refine w_opH (v := .ptr 0 0 0) (env' := _) (H2 := [.arr 25 4 [[_, _, _, _]]]) rfl rfl rfl rfl (fun _ h => h) (v42 rfl ?_)
 refine w_opH (v := .ptr 1 0 0) (env' := _) (H2 := [.arr 25 4 [[_, _, _, _]], .arr 64 2 [[_, _]]]) rfl rfl rfl rfl (fun _ h => h) (v42 rfl ?_)
 refine wN rfl rfl rfl (v42 rfl ?_)
 refine we rfl (vs (w_regionD (by kernel_rfl) ?_))
 refine dN (v := .ptr 1 0 0) rfl rfl rfl (d42 rfl ?_)
 iterate 3 refine dN rfl rfl rfl (d42 rfl ?_)
 refine d_split 8 rfl (fun hg8 => ?_) (fun hg8 => ?_)
 ·
  have h0 : 0 ≤ x.type := of_decide_eq_true hg8
  refine d42 rfl ?_
  refine dN (v := .ptr 1 0 0) (wanted_t 8 (by kernel_rfl) rfl) rfl rfl (d42 rfl ?_)
  refine dN (wanted_t 8 (by kernel_rfl) rfl) rfl rfl (d42 rfl ?_)
  refine dN (v := .ptr 0 0 2) (wanted_t 8 (by kernel_rfl) rfl) rfl rfl (d42 rfl ?_)
  refine dN (wanted_t 8 (by kernel_rfl) rfl) rfl rfl (d42 rfl ?_)
  first | refine dN (wanted_t 8 (by kernel_rfl) rfl) rfl rfl (d42 rfl ?_) | refine y_len (wanted_t 8 (by kernel_rfl) rfl) rfl ‹_› Tryz.underlying22 rfl (d42 rfl ?_)
  refine dN (wanted_t 8 (by kernel_rfl) rfl) rfl rfl (d42 rfl ?_)
  iterate 2 refine dN rfl rfl rfl (d42 rfl ?_)
  refine d_split 16 rfl (fun hg16 => ?_) (fun hg16 => ?_)
  ·
   have h1 : x.type < b.types.length := by have := of_decide_eq_true hg16; omega
   obtain ⟨t, ht⟩ : ∃ t, b.types[(x.type).toNat]? = some t := ⟨_, List.getElem?_eq_getElem (by omega)⟩
   have hrt : (lrows b.tx)[(x.type).toNat]? = some [.str t.name, .int .i64 t.parent, .int .i64 t.min, .int .i64 t.size, t.fx, .int .i64 t.key, .bool t.unique, .bool t.last] := by rw [hb.types.rows, List.getElem?_map, ht]; rfl
   have hfi : fitsI b x = (decide ((x.data.size : Int) ≥ t.min) && decide ((x.data.size : Int) ≤ t.size)) := by rw [fitsI, if_neg (by omega), ht]
   refine d42 rfl ?_
   refine dN (v := .ptr 1 0 1) (wanted_t 16 (by kernel_rfl) rfl) rfl rfl (d42 rfl ?_)
   iterate 2 refine dN (wanted_t 16 (by kernel_rfl) rfl) rfl rfl (d42 rfl ?_)
   refine dN (v := .ptr 0 0 2) (wanted_t 16 (by kernel_rfl) rfl) rfl rfl (d42 rfl ?_)
   refine dN (wanted_t 16 (by kernel_rfl) rfl) rfl rfl (d42 rfl ?_)
   refine dN (v := .ptr 1 0 0) (wanted_t 16 (by kernel_rfl) rfl) rfl rfl (d42 rfl ?_)
   refine dN (wanted_t 16 (by kernel_rfl) rfl) rfl rfl (d42 rfl ?_)
   first | refine dN (v := .iptr _ [_, _, _, _, _, _, _, _]) (wanted_t 16 (by kernel_rfl) rfl) rfl rfl (d42 rfl ?_) | (refine y_index (wanted_t 16 (by kernel_rfl) rfl) rfl ‹_› rfl el22 (by omega) ‹_› rfl (fun bo => ?_); refine d42 rfl ?_)
   refine dN (v := .iptr _ [_, _, _, _, _, _]) (wanted_t 16 (by kernel_rfl) rfl) rfl rfl (d42 rfl ?_)
   iterate 2 refine dN (wanted_t 16 (by kernel_rfl) rfl) rfl rfl (d42 rfl ?_)
   iterate 2 refine dN rfl rfl rfl (d42 rfl ?_)
   refine d_split 29 rfl (fun hg29 => ?_) (fun hg29 => ?_)
   ·
    refine d42 rfl ?_
    refine dN (v := .ptr 1 0 1) (wanted_t 29 (by kernel_rfl) rfl) rfl rfl (d42 rfl ?_)
    iterate 2 refine dN (wanted_t 29 (by kernel_rfl) rfl) rfl rfl (d42 rfl ?_)
    refine dN (v := .ptr 0 0 2) (wanted_t 29 (by kernel_rfl) rfl) rfl rfl (d42 rfl ?_)
    refine dN (wanted_t 29 (by kernel_rfl) rfl) rfl rfl (d42 rfl ?_)
    refine dN (v := .ptr 1 0 0) (wanted_t 29 (by kernel_rfl) rfl) rfl rfl (d42 rfl ?_)
    refine dN (wanted_t 29 (by kernel_rfl) rfl) rfl rfl (d42 rfl ?_)
    first | refine dN (v := .iptr _ [_, _, _, _, _, _, _, _]) (wanted_t 29 (by kernel_rfl) rfl) rfl rfl (d42 rfl ?_) | (refine y_index (wanted_t 29 (by kernel_rfl) rfl) rfl ‹_› rfl el22 (by omega) ‹_› rfl (fun bo => ?_); refine d42 rfl ?_)
    refine dN (v := .iptr _ [_, _, _, _, _]) (wanted_t 29 (by kernel_rfl) rfl) rfl rfl (d42 rfl ?_)
    iterate 2 refine dN (wanted_t 29 (by kernel_rfl) rfl) rfl rfl (d42 rfl ?_)
    iterate 2 refine dN rfl rfl rfl (d42 rfl ?_)
    refine d_end rfl (vc_ret (r_fn rfl ?_))
    show some (AV.bool (decide ((x.data.size : Int) ≤ t.size))) = some (AV.bool (fitsI b x))
    rw [hfi, hg29, Bool.true_and]
   ·
    refine d42 rfl ?_
    iterate 11 refine dS (wanted_f 29 (by kernel_rfl) rfl) (d42 rfl ?_)
    iterate 2 refine dN rfl rfl rfl (d42 rfl ?_)
    refine d_end rfl (vc_ret (r_fn rfl ?_))
    show some (AV.bool false) = some (AV.bool (fitsI b x))
    rw [hfi, hg29, Bool.false_and]
  ·
   have h1 : ¬ x.type < b.types.length := by have := of_decide_eq_false hg16; omega
   refine d42 rfl ?_
   iterate 11 refine dS (wanted_f 16 (by kernel_rfl) rfl) (d42 rfl ?_)
   iterate 2 refine dN rfl rfl rfl (d42 rfl ?_)
   iterate 11 refine dS (wanted_f 29 (by kernel_rfl) rfl) (d42 rfl ?_)
   iterate 2 refine dN rfl rfl rfl (d42 rfl ?_)
   refine d_end rfl (vc_ret (r_fn rfl ?_))
   show some (AV.bool false) = some (AV.bool (fitsI b x))
   rw [fitsI, if_neg (by omega), List.getElem?_eq_none (by omega)]
 ·
  refine d42 rfl ?_
  iterate 6 refine dS (wanted_f 8 (by kernel_rfl) rfl) (d42 rfl ?_)
  iterate 2 refine dN rfl rfl rfl (d42 rfl ?_)
  iterate 11 refine dS (wanted_f 16 (by kernel_rfl) rfl) (d42 rfl ?_)
  iterate 2 refine dN rfl rfl rfl (d42 rfl ?_)
  iterate 11 refine dS (wanted_f 29 (by kernel_rfl) rfl) (d42 rfl ?_)
  iterate 2 refine dN rfl rfl rfl (d42 rfl ?_)
  refine d_end rfl (vc_ret (r_fn rfl ?_))
  show some (AV.bool false) = some (AV.bool (fitsI b x))
  rw [fitsI, if_pos (by have := of_decide_eq_false hg8; omega)]
set_option maxHeartbeats 8000000 in
theorem zKey (G : Glob) (t : PT) (ht : TypeIs t) (d : ByteArray) (hd : d.size < 9223372036854775808) (hk : KeyIn t d) : Vi.Fn Tryz.prog G 154 [.agg (encT t), .str d] (.str (keyOf t d)) := by
 have hL := ht.fx.isL
 have hxl : (lrows t.fx).length = t.fields.length := by rw [ht.fx.rows]; simp
 refine fn_body (fun _ => .iso) Tryz.func154 rfl ?_
 refine vc_norm (env' := (_ :: _ :: _ :: _ :: _ :: _ :: _ :: _ :: _ :: _ :: _ :: _ :: _ :: _ :: _ :: _ :: _ :: _ :: _ :: _ :: _ :: _ :: _ :: _ :: [])) (H' := []) rfl rfl ?_
 refine vs (wr ?_)
 refine w_opH (v := .ptr 0 0 0) (env' := _) (H2 := [.arr 62 8 [[_, _, _, _, _, _, _, _]]]) rfl rfl rfl rfl (fun _ h => h) (v24 rfl ?_)
 refine wN rfl rfl rfl (v24 rfl ?_)
 refine we rfl (vs (vs (wr ?_)))
 refine wN (v := .ptr 0 0 5) rfl rfl rfl (v24 rfl ?_)
 iterate 2 refine wN rfl rfl rfl (v24 rfl ?_)
 refine we rfl ?_
 refine vc_cond rfl (fun hc8 => ?_) (fun hc8 => ?_)
 ·
  refine vs (wr ?_)
  refine wN rfl rfl rfl (v24 rfl ?_)
  refine we rfl (vc_ret (r_then (r_fn rfl ?_)))
  show some (AV.str ⟨#[]⟩) = some (AV.str (keyOf t d))
  rw [keyOf, if_pos (of_decide_eq_true hc8)]
 ·
  have hk0 : 0 ≤ t.key := by have := of_decide_eq_false hc8; omega
  obtain ⟨f, hf, hf0, hf1, hf2⟩ := hk hk0
  have hri : (lrows t.fx)[t.key.toNat]? = some [.str f.name, .int .i64 f.at_, .int .i64 f.bytes] := by rw [ht.fx.rows, List.getElem?_map, hf]; rfl
  refine vc_skip (n_then (vs (wr ?_)))
  refine wN (v := .ptr 0 0 4) rfl rfl rfl (v24 rfl ?_)
  refine wN rfl rfl rfl (v24 rfl ?_)
  refine wN (v := .ptr 0 0 5) rfl rfl rfl (v24 rfl ?_)
  refine wN rfl rfl rfl (v24 rfl ?_)
  first | refine wN (v := .iptr _ [_, _, _]) rfl rfl rfl (v24 rfl ?_) | (refine x_index rfl rfl ‹_› rfl el60 (by omega) ‹_› rfl (fun bo => ?_); refine v24 rfl ?_)
  refine wN (v := .agg [_, _, _]) rfl rfl rfl (v24 rfl ?_)
  refine w_opH (v := .ptr 1 0 0) (env' := _) (H2 := [.arr 62 8 [[_, _, _, _, _, _, _, _]], .arr 117 3 [[_, _, _]]]) rfl rfl rfl rfl (fun _ h => h) (v24 rfl ?_)
  refine w_op0N (H2 := [.arr 62 8 [[_, _, _, _, _, _, _, _]], .arr 117 3 [[_, _, _]]]) rfl rfl rfl (fun _ h => h) ?_
  refine we rfl (vs (wr ?_))
  refine wN rfl rfl rfl (v24 rfl ?_)
  refine wN (v := .ptr 1 0 1) rfl rfl rfl (v24 rfl ?_)
  refine wN rfl rfl rfl (v24 rfl ?_)
  refine wN (v := .ptr 1 0 1) rfl rfl rfl (v24 rfl ?_)
  refine wN rfl rfl rfl (v24 rfl ?_)
  refine wN (v := .ptr 1 0 2) rfl rfl rfl (v24 rfl ?_)
  refine wN rfl rfl rfl (v24 rfl ?_)
  refine wN (v := .int .i64 (f.at_ + f.bytes)) rfl (int_eq (i64_small (by omega) (by omega))) rfl (v24 rfl ?_)
  refine wN (v := .str (d.extract f.at_.toNat (f.at_ + f.bytes).toNat)) rfl (s_slice Tryz.underlying9 (by omega) (by omega) (by omega)) rfl (v24 rfl ?_)
  refine wN rfl rfl rfl (v24 rfl ?_)
  refine we rfl (vc_ret (r_fn rfl ?_))
  show some (AV.str (d.extract f.at_.toNat (f.at_ + f.bytes).toNat)) = some (AV.str (keyOf t d))
  rw [keyOf, if_neg (of_decide_eq_false hc8), hf]
set_option maxHeartbeats 8000000 in
theorem zInOrder (G : Glob) (t : PT) (ht : TypeIs t) (d e : ByteArray) (hd : d.size < 9223372036854775808) (he : e.size < 9223372036854775808) (hk : KeyIn t d) (hk2 : KeyIn t e) : Vi.Fn Tryz.prog G 128 [.agg (encT t), .str d, .str e] (.bool (inOrderP t d e)) := by
 have hL := ht.fx.isL
 refine fn_body (fun _ => .iso) Tryz.func128 rfl ?_
 refine vc_norm (env' := (_ :: _ :: _ :: _ :: _ :: _ :: _ :: _ :: _ :: _ :: _ :: _ :: _ :: _ :: _ :: _ :: _ :: _ :: _ :: _ :: _ :: _ :: _ :: _ :: _ :: _ :: _ :: _ :: _ :: _ :: _ :: [])) (H' := []) rfl rfl ?_
 refine vs (wr ?_)
 refine w_opH (v := .ptr 0 0 0) (env' := _) (H2 := [.arr 62 8 [[_, _, _, _, _, _, _, _]]]) rfl rfl rfl rfl (fun _ h => h) (v31 rfl ?_)
 refine wN rfl rfl rfl (v31 rfl ?_)
 refine we rfl (vs (vs (wr ?_)))
 refine wN (v := .ptr 0 0 5) rfl rfl rfl (v31 rfl ?_)
 iterate 2 refine wN rfl rfl rfl (v31 rfl ?_)
 refine we rfl ?_
 refine vc_cond rfl (fun hc11 => ?_) (fun hc11 => ?_)
 ·
  refine vs (wr ?_)
  refine wN rfl rfl rfl (v31 rfl ?_)
  refine we rfl (vc_ret (r_then (r_fn rfl ?_)))
  show some (AV.bool true) = some (AV.bool (inOrderP t d e))
  rw [inOrderP, if_pos (of_decide_eq_true hc11)]
 ·
  refine vc_skip (n_then (vs (w_regionD (by kernel_rfl) ?_)))
  refine dN (v := .agg [_, _, _, _, _, _, _, _]) rfl rfl rfl (d31 rfl ?_)
  refine dN rfl rfl rfl (d31 rfl ?_)
  refine d_callI (env' := _) rfl rfl rfl (by kernel_rfl) rfl (by repeat' first | exact IsL.lend ‹_› | exact IsL.lend0 ‹_› | refine mapL_cons ?_ ?_ | refine lend_agg ?_ | rfl) (zKey G t ht d hd hk) rfl (d31 rfl ?_)
  refine dN (v := .agg [_, _, _, _, _, _, _, _]) rfl rfl rfl (d31 rfl ?_)
  refine dN rfl rfl rfl (d31 rfl ?_)
  refine d_callI (env' := _) rfl rfl rfl (by kernel_rfl) rfl (by repeat' first | exact IsL.lend ‹_› | exact IsL.lend0 ‹_› | refine mapL_cons ?_ ?_ | refine lend_agg ?_ | rfl) (zKey G t ht e he hk2) rfl (d31 rfl ?_)
  iterate 2 refine dN rfl rfl rfl (d31 rfl ?_)
  refine d_end rfl (vs (wr ?_))
  iterate 4 refine wN rfl rfl rfl (v31 rfl ?_)
  refine w_split 21 rfl (fun hg21 => ?_) (fun hg21 => ?_)
  ·
   refine v31 rfl ?_
   iterate 4 refine wS (wanted_f 21 (by kernel_rfl) rfl) (v31 rfl ?_)
   iterate 3 refine wS (wanted_k 25 (by kernel_rfl) rfl) (v31 rfl ?_)
   refine wS (wanted_f 21 (by kernel_rfl) rfl) (v31 rfl ?_)
   iterate 2 refine wN rfl rfl rfl (v31 rfl ?_)
   refine we rfl (vc_ret (r_fn rfl ?_))
   show some (AV.bool true) = some (AV.bool (inOrderP t d e))
   rw [inOrderP, if_neg (of_decide_eq_false hc11), hg21, Bool.true_or]
  ·
   refine v31 rfl ?_
   iterate 4 refine wN (wanted_t 21 (by kernel_rfl) rfl) rfl rfl (v31 rfl ?_)
   refine w_split 25 rfl (fun hg25 => ?_) (fun hg25 => ?_)
   ·
    refine v31 rfl ?_
    refine wN (v := .ptr 0 0 6) (wanted_t 25 (by kernel_rfl) rfl) rfl rfl (v31 rfl ?_)
    iterate 2 refine wN (wanted_t 25 (by kernel_rfl) rfl) rfl rfl (v31 rfl ?_)
    refine wN (wanted_t 21 (by kernel_rfl) rfl) rfl rfl (v31 rfl ?_)
    iterate 2 refine wN rfl rfl rfl (v31 rfl ?_)
    refine we rfl (vc_ret (r_fn rfl ?_))
    show some (AV.bool (!t.unique)) = some (AV.bool (inOrderP t d e))
    rw [inOrderP, if_neg (of_decide_eq_false hc11), hg21, hg25, Bool.false_or, Bool.true_and]
   ·
    refine v31 rfl ?_
    iterate 3 refine wS (wanted_f 25 (by kernel_rfl) rfl) (v31 rfl ?_)
    refine wN (wanted_t 21 (by kernel_rfl) rfl) rfl rfl (v31 rfl ?_)
    iterate 2 refine wN rfl rfl rfl (v31 rfl ?_)
    refine we rfl (vc_ret (r_fn rfl ?_))
    show some (AV.bool false) = some (AV.bool (inOrderP t d e))
    rw [inOrderP, if_neg (of_decide_eq_false hc11), hg21, hg25]
    rfl
end Go.Vi
namespace Go.Vi
open Go Go.Vi Go.Proofs
attribute [local irreducible] vops vopsD vc
theorem el62' : True := trivial
def isTy (f : List PI) (pt k : Int) : Bool := match f[k.toNat]? with
 | some y => y.type == pt
 | none => false
def slotOf (b : PB) (f : List PI) (ws : List Int) (t : Int) : Int := if parentOf b.types t ≥ 0 then 1 + fidx (intP (isTy f (parentOf b.types t))) (wrows ws) else 0
def twinBad (b : PB) (f : List PI) (k : Int) (x : PI) : Bool := decide (k ≥ 0) && match f[k.toNat]?, b.types[x.type.toNat]? with
 | some y, some t => decide (y.type > x.type) || ((y.type == x.type) && !inOrderP t y.data x.data)
 | _, _ => false
def vstep (b : PB) (f : List PI) (i : Nat) (ws : List Int) (x : PI) : Option (List Int) :=
 if fitsI b x = false then none
 else if parentOf b.types x.type ≥ 0 ∧ slotOf b f ws x.type = 0 then none
 else if twinBad b f ((ws ++ [-1]).getD (slotOf b f ws x.type).toNat (-1)) x = true then none
 else some (ws.take (slotOf b f ws x.type).toNat ++ [(i : Int)])
def validFrom (b : PB) (f : List PI) : Nat → List Int → List PI → Bool
 | _, _, [] => true
 | i, ws, x :: r => match vstep b f i ws x with
   | some ws' => validFrom b f (i + 1) ws' r
   | none => false
def validP (b : PB) (f : List PI) : Bool := decide ((f.length : Int) ≤ 200) && validFrom b f 0 [] f
structure VInv (b : PB) (f : List PI) (i : Nat) (ws : List Int) : Prop where
 le : i ≤ f.length
 len : ws.length ≤ i
 bound : ∀ w ∈ ws, 0 ≤ w ∧ w < i
 fit : ∀ (j : Nat) (y : PI), j < i → f[j]? = some y → fitsI b y = true
 eq : validFrom b f 0 [] f = validFrom b f i ws (f.drop i)
theorem vinv0 (b : PB) (f : List PI) : VInv b f 0 [] := ⟨by omega, by simp, fun w h => absurd h (by simp), fun j y h => by omega, rfl⟩
theorem VInv.bad {b : PB} {f : List PI} {i : Nat} {ws : List Int} {x : PI} (h : VInv b f i ws) (hx : f[i]? = some x) (hs : vstep b f i ws x = none) : validP b f = false := by
 simp only [validP, h.eq, drop_at' hx, validFrom, hs, Bool.and_false]
theorem slot_le {b : PB} {f : List PI} {ws : List Int} {t : Int} : 0 ≤ slotOf b f ws t ∧ slotOf b f ws t ≤ ws.length := by
 unfold slotOf
 have h := fidx_range (p := intP (isTy f (parentOf b.types t))) (rows := wrows ws)
 have hl : (wrows ws).length = ws.length := by simp [wrows]
 split <;> omega
theorem VInv.next {b : PB} {f : List PI} {i : Nat} {ws ws' : List Int} {x : PI} (h : VInv b f i ws) (hx : f[i]? = some x) (hs : vstep b f i ws x = some ws') : VInv b f (i + 1) ws' := by
 have hlt := (List.getElem?_eq_some_iff.1 hx).1
 have hsl := slot_le (b := b) (f := f) (ws := ws) (t := x.type)
 have hf : fitsI b x = true := by
  unfold vstep at hs
  split at hs
  · cases hs
  · rename_i h1; simpa using h1
 have hw : ws' = ws.take (slotOf b f ws x.type).toNat ++ [(i : Int)] := by
  unfold vstep at hs
  split at hs
  · cases hs
  · split at hs
    · cases hs
    · split at hs
      · cases hs
      · cases hs; rfl
 refine ⟨hlt, ?_, ?_, ?_, ?_⟩
 · have := h.len
   rw [hw]; simp; omega
 · intro w hw'
   rw [hw] at hw'
   rcases List.mem_append.1 hw' with hw' | hw'
   · have := h.bound w (List.mem_of_mem_take hw')
     omega
   · simp at hw'
     omega
 · intro j y hj hy
   by_cases e : j = i
   · subst e; rw [hx] at hy; cases hy; exact hf
   · exact h.fit j y (by omega) hy
 · rw [h.eq, drop_at' hx]
   simp only [validFrom, hs]
theorem pval_len {P : Program} {H : Hp} {t e : TypeId} {L : Nat} {rows : List (List AV)} (hu : P.underlying t = some (.slice e)) : (vlen P H t (pval L rows)).map (·, H) = some (.int .i64 (rows.length : Nat), H) := by
 unfold pval
 split
 · rename_i h; subst h; simp [vlen, hu]
 · simp [vlen, hu]
theorem pval_at {P : Program} {H : Hp} {t e : TypeId} {L sz i : Nat} {rows : List (List AV)} {k : IntKind} {n : Int} (he : elemAt P t = some (none, e, sz)) (h1 : H[L]? = some (pobj e sz rows)) (h0 : 0 ≤ n) (hn : n.toNat = i) (hi : i < rows.length) :
 (vindexAddr P H t (pval L rows) (.int k n)).map (·, H) = some (.ptr L i 0, H) := by
 have hp : ¬ rows = [] := by intro e; subst e; simp at hi
 rw [pobj, if_neg hp] at h1
 rw [pval, if_neg hp]
 exact g_indexN he h1 h0 (by omega) hn
theorem pobj_get {H : Hp} {L sz : Nat} {e : TypeId} {rows : List (List AV)} {r : List AV} {i : Nat} (h1 : H[L]? = some (pobj e sz rows)) (hr : rows[i]? = some r) : H[L]? = some (.arr e sz rows) := by
 have hp : ¬ rows = [] := by intro e; subst e; simp at hr
 rw [pobj, if_neg hp] at h1
 exact h1
theorem row_cut {P : Program} {H : Hp} {t e : TypeId} {L sz m n : Nat} {tt : Bool} {rows : List (List AV)} (hu : P.underlying t = some (.slice e)) (hs : szOf P e = some sz) (h : H[L]? = some (.arr e sz rows)) (hm : m < n) :
 (vslice P H t (.row tt L 0 n) none (some (.int .i64 (m : Int))) none).map (·, H) = some (.row false L 0 m, H) := by
 have hb : vbounds n none (some (.int .i64 (m : Int))) none = some (0, m, none) := by
  have : m ≤ n := by omega
  simp [vbounds, bnd, this]
 simp only [vslice, hu, hs, hb, h, if_true, Option.map_some]
 simp [cutT]
 omega
theorem row_app {P : Program} {H : Hp} {L m : Nat} {rows news : List (List AV)} {t t2 e : TypeId} {sz by_ : Nat} {d2 : TypeDesc} {zc : List AV} {x : AV} (hL : H[L]? = some (.arr e sz rows)) (hm : m ≤ rows.length) (he : elemAt P t = some (none, e, sz)) (hu : P.underlying t2 = some d2) (hd : isInt d2 = false) (hz : zcOf P e = some zc) (hb : byOf P e = some by_)
 (hx : srcRows H x = some news) (hl : zc.length = sz) (h0 : sz ≠ 0) (hb0 : by_ ≠ 0) (hlo : lenOk sz news = true) (hs : x.isStr = false) (hne : news ≠ []) (hv : allVal news = true) (hsz : (m + news.length) * by_ ≤ 140737488355328) :
 vappend P H t t2 (.row false L 0 m) x = some (.row false H.length 0 (m + news.length), H.set L .dead ++ [.arr e sz (rows.take m ++ news)]) := by
 have hf : frzRows H news = some (H, news) := frzRows_val fun r hr x hx => frz_val (List.all_eq_true.1 (List.all_eq_true.1 hv r hr) x hx)
 have hn0 : ¬ news.length = 0 := by simpa using hne
 unfold vappend vappendF
 simp only [he, hu, hd, hz, hb, hx, Bool.false_eq_true, if_false]
 rw [if_pos ⟨hl, h0, hb0, hlo, by simp [hs], rfl⟩, if_neg hn0, hf]
 simp only [hL]
 rw [if_pos (by refine ⟨?_, ?_, ?_⟩ <;> first | trivial | exact hsz | omega | simp)]
 simp
set_option maxHeartbeats 8000000 in
theorem zIdxX (G : Glob) (H : Hp) (L : Nat) (ws : List Int) (hH : H[L]? = some (pobj 3 1 (wrows ws))) (g : Nat) (caps : List AV) (p : Int → Bool) (hlen : ws.length < 9223372036854775808) (he : enterOk Tryz.prog g = true) (hp : ∀ w ∈ ws, XS Tryz.prog G g (.int .i64 w :: caps) H (fun r H' => r = .bool (p w) ∧ H' = H)) : XS Tryz.prog G 98 [pval L (wrows ws), .clo g caps] H (fun r H' => r = .int .i64 (fidx (intP p) (wrows ws)) ∧ H' = H) := by
 have hwl : (wrows ws).length = ws.length := by simp [wrows]
 refine xs_body (fun o => match o.op with | .call ⟨.value _, _, _⟩ => .shr | _ => .iso) Tryz.func98 rfl ?_
 refine vc_norm (env' := [_, _, _, _, _, _, _, _, _, _, _, _, _, _, _, _, _, _, _]) (H' := _) rfl rfl ?_
 refine vs (wr ?_)
 refine wN rfl rfl rfl (v19 rfl ?_)
 refine we rfl (vs (vs (wr ?_)))
 refine wN rfl rfl rfl (v19 rfl ?_)
 refine wN (v := .int .i64 (ws.length : Nat)) rfl ((pval_len Tryz.underlying35).trans (by rw [hwl])) rfl (v19 rfl ?_)
 refine wN rfl rfl rfl (v19 rfl ?_)
 refine we rfl (vc_block ?_)
 refine vc_loopX (α := { i : Nat // (∀ j r, j < i → (wrows ws)[j]? = some r → intP p r = false) ∧ i ≤ ws.length }) (fun i => (rnone 4 ++ ([some .undef, some .undef, none, none, some (.int .i64 (i.1 : Nat))] ++ (rundef 10)))) (fun i => H) (fun i => ws.length - i.1) ⟨0, fun j r h => by omega, by omega⟩ (by repeat' first | exact trivial | refine ⟨.inr rfl, ?_⟩ | refine ⟨.inl rfl, ?_⟩ | fail) rfl ?_
 rintro ⟨i, hn, hi⟩ Y0 hY0
 refine vc_norm (env' := [_, _, _, _, _, _, _, _, .int .i64 (i : Int), _, _, _, _, _, _, _, _, _, _]) (H' := H) rfl rfl ?_
 refine vs (wr ?_)
 refine wN rfl rfl rfl (v19 rfl ?_)
 refine we rfl (vs ?_)
 refine vc_cond rfl (fun hc9 => ?_) (fun hc9 => ?_)
 ·
  have hlt : i < ws.length := by have := of_decide_eq_true hc9; omega
  obtain ⟨w, hw⟩ : ∃ w, ws[i]? = some w := ⟨_, List.getElem?_eq_getElem hlt⟩
  have hrw : (wrows ws)[i]? = some [.int .i64 w] := wrows_at hw
  refine vc_skip (n_then (vs (vc_block (vs (wr ?_)))))
  iterate 2 refine wN rfl rfl rfl (v19 rfl ?_)
  refine we rfl (vs (wr ?_))
  iterate 3 refine wN rfl rfl rfl (v19 rfl ?_)
  refine wN (v := .ptr L i 0) rfl (pval_at el35 hH (by omega) (by omega) (by omega)) rfl (v19 rfl ?_)
  refine wN (v := .int .i64 w) rfl (g_load (pobj_get hH hrw) hrw rfl) rfl (v19 rfl ?_)
  refine w_callS rfl rfl rfl he rfl (hp w (List.mem_of_getElem? hw)) ?_
  rintro _ _ ⟨rfl, rfl⟩
  refine v19 rfl ?_
  refine we rfl ?_
  refine vc_cond rfl (fun hc16 => ?_) (fun hc16 => ?_)
  ·
   refine vs (wr ?_)
   iterate 2 refine wN rfl rfl rfl (v19 rfl ?_)
   refine we rfl (vc_ret (r_block (r_then (r_then (r_block (r_then (r_fn rfl ?_)))))))
   exact ⟨by rw [fidx_at hn hrw hc16], rfl⟩
  ·
   refine vc_skip (n_block (n_then (wr ?_)))
   iterate 2 refine wN rfl rfl rfl (v19 rfl ?_)
   refine we rfl ?_
   refine hY0 ⟨i + 1, upto_succ hn hrw hc16, hlt⟩ (by simp only; omega) _ _ ?_ rfl
   repeat' first | exact trivial | refine ⟨.inr rfl, ?_⟩ | refine ⟨.inl rfl, ?_⟩ | refine ⟨.inl ?_, ?_⟩ | fail
   all_goals first | exact (int_succ (by omega)).symm
 ·
  have hge : ¬ i < ws.length := by have := of_decide_eq_false hc9; omega
  refine vc_exit (x_then (x_then (x_same (n_then (vs (wr ?_))))))
  refine wN rfl rfl rfl (v19 rfl ?_)
  refine we rfl (vc_ret (r_fn rfl ?_))
  exact ⟨by rw [fidx_no hn (by simp [wrows]; omega)], rfl⟩
set_option maxHeartbeats 8000000 in
theorem zIsTy (G : Glob) (H : Hp) (l1 l2 : Nat) (x : AV) (f : List PI) (hx : ItemsIs x f) (pt w : Int) (h1 : H[l1]? = some (.arr 26 1 [[x]])) (h2 : H[l2]? = some (.arr 3 1 [[.int .i64 pt]])) (h0 : 0 ≤ w) (hw : w < f.length) : XS Tryz.prog G 127 [.int .i64 w, .ptr l1 0 0, .ptr l2 0 0] H (fun r H' => r = .bool (isTy f pt w) ∧ H' = H) := by
 have hL := hx.isL
 obtain ⟨y, hy⟩ : ∃ y, f[w.toNat]? = some y := ⟨_, List.getElem?_eq_getElem (by omega)⟩
 have hri := hx.at hy
 refine xs_body (fun _ => .iso) Tryz.func127 rfl ?_
 refine vc_norm (env' := [_, _, _, _, _, _, _, _, _, _, _, _]) (H' := _) rfl rfl ?_
 refine vs (wr ?_)
 refine wN rfl rfl rfl (v12 rfl ?_)
 refine we rfl (vs (w_regionD (by kernel_rfl) ?_))
 refine dN (v := x) rfl (g_load h1 rfl rfl) rfl (d12 rfl ?_)
 refine dN rfl rfl rfl (d12 rfl ?_)
 first | refine dN (v := .iptr _ [_, _]) rfl rfl rfl (d12 rfl ?_) | (refine y_index rfl rfl ‹_› rfl el26 (by omega) ‹_› rfl (fun bo => ?_); refine d12 rfl ?_)
 refine dN (v := .iptr _ [_, _]) rfl rfl rfl (d12 rfl ?_)
 refine dN rfl rfl rfl (d12 rfl ?_)
 refine dN (v := .int .i64 pt) rfl (g_load h2 rfl rfl) rfl (d12 rfl ?_)
 iterate 2 refine dN rfl rfl rfl (d12 rfl ?_)
 refine d_end rfl (vc_ret (r_fn rfl ?_))
 exact ⟨by rw [isTy, hy], rfl⟩
end Go.Vi
namespace Go.Vi
open Go Go.Vi Go.Proofs
attribute [local irreducible] vops vopsD vc
theorem box_L {H : Hp} {t : TypeId} {x : AV} (hL : IsL x) : vbox H t x = some (.ptr H.length 0 0, H ++ [.arr t 1 [[x]]]) := by
 rcases hL with rfl | ⟨tg, rows, rfl⟩ <;> rfl
set_option maxHeartbeats 8000000 in
theorem zPValid (G : Glob) (b : PB) (hb : BaseV b) (hv : baseOk b = true) (x : AV) (f : List PI) (hx : ItemsIs x f) : Vi.Fn Tryz.prog G 100 [.agg (encB b), x] (.bool (validP b f)) := by
 have hL := hb.types.isL
 have hLs := hb.search.isL
 have htv := hb.txv
 have hsv := hb.sxv
 have hxl : (lrows b.tx).length = b.types.length := by rw [hb.types.rows]; simp
 have hXL := hx.isL
 have hfl : (lrows x).length = f.length := by rw [hx.rows]; simp
 refine fn_body (fun o => match o.dst with | some 15 => .shr | some 38 => .shr | _ => .iso) Tryz.func100 rfl ?_
 refine vc_norm (env' := (_ :: _ :: _ :: _ :: _ :: _ :: _ :: _ :: _ :: _ :: _ :: _ :: _ :: _ :: _ :: _ :: _ :: _ :: _ :: _ :: _ :: _ :: _ :: _ :: _ :: _ :: _ :: _ :: _ :: _ :: _ :: _ :: _ :: _ :: _ :: _ :: _ :: _ :: _ :: _ :: _ :: _ :: _ :: _ :: _ :: _ :: _ :: _ :: _ :: _ :: _ :: _ :: _ :: _ :: _ :: _ :: _ :: _ :: _ :: _ :: _ :: _ :: _ :: _ :: _ :: _ :: _ :: _ :: _ :: _ :: _ :: _ :: _ :: _ :: _ :: _ :: _ :: _ :: _ :: _ :: _ :: _ :: _ :: _ :: _ :: _ :: _ :: _ :: _ :: _ :: _ :: _ :: _ :: _ :: _ :: _ :: _ :: _ :: [])) (H' := []) rfl rfl ?_
 refine vs (wr ?_)
 refine w_opH (v := .ptr 0 0 0) (env' := _) (H2 := [.arr 25 4 [[_, _, _, _]]]) rfl rfl rfl rfl (fun _ h => h) (v98 rfl ?_)
 refine w_opH (v := .ptr 1 0 0) (env' := _) (H2 := [.arr 25 4 [[_, _, _, _]], VO.arr 26 1 [[x]]]) rfl (box_L hXL) rfl (rfl) (fun _ h => h) (v98 rfl ?_)
 refine wN rfl rfl rfl (v98 rfl ?_)
 refine we rfl (vs (vs (wr ?_)))
 refine wN rfl rfl rfl (v98 rfl ?_)
 first | refine wN rfl rfl rfl (v98 rfl ?_) | refine x_len rfl rfl ‹_› Tryz.underlying26 rfl (v98 rfl ?_)
 refine wN rfl rfl rfl (v98 rfl ?_)
 refine we rfl ?_
 refine vc_cond rfl (fun hc14 => ?_) (fun hc14 => ?_)
 ·
  have h200 : ¬ (f.length : Int) ≤ 200 := by have := of_decide_eq_true hc14; omega
  refine vs (wr ?_)
  refine wN rfl rfl rfl (v98 rfl ?_)
  refine we rfl (vc_ret (r_then (r_fn rfl ?_)))
  show some (AV.bool false) = some (AV.bool (validP b f))
  rw [validP, decide_eq_false h200, Bool.false_and]
 ·
  have h200 : (f.length : Int) ≤ 200 := by have := of_decide_eq_false hc14; omega
  refine vc_skip (n_then (vs (wr ?_)))
  refine wN rfl rfl rfl (v98 rfl ?_)
  refine we rfl (vs (wr ?_))
  refine wN (v := .row true 2 0 1) rfl (g_build1 (H := [VO.arr 25 4 [[.str b.name, .int .i64 b.kind, b.tx, b.sx]], VO.arr 26 1 [[x]]]) (x := .int .i64 (-1)) (cs := [.int .i64 (-1)]) (n := 2) el35 zc3 ⟨rfl, by decide, by decide⟩ rfl rfl rfl) rfl (v98 rfl ?_)
  refine wN rfl rfl rfl (v98 rfl ?_)
  refine we rfl (vs (vs (wr ?_)))
  refine wN rfl rfl rfl (v98 rfl ?_)
  first | refine wN rfl rfl rfl (v98 rfl ?_) | refine x_len rfl rfl ‹_› Tryz.underlying26 rfl (v98 rfl ?_)
  refine wN rfl rfl rfl (v98 rfl ?_)
  refine we rfl (vc_block ?_)
  refine vc_loopN (α := { a : Nat × List Int × Bool // VInv b f a.1 a.2.1 }) (fun a => (rnone 4 ++ ([some .undef, some (pval 3 (wrows a.1.2.1)), some (.row a.1.2.2 2 0 (a.1.2.1.length + 1))] ++ (rundef 5 ++ ([none, none, none, some (.undef), none, none, some (.int .i64 (a.1.1 : Nat))] ++ (rundef 79)))))) (fun a => [VO.arr 25 4 [[.str b.name, .int .i64 b.kind, b.tx, b.sx]], VO.arr 26 1 [[x]], .arr 3 1 (wrows (a.1.2.1 ++ [-1])), pobj 3 1 (wrows a.1.2.1)]) (fun a => f.length - a.1.1) ⟨(0, [], true), vinv0 _ _⟩ [0, 1, 2, 3] (by repeat' first | exact trivial | refine ⟨.inl rfl, ?_⟩ | refine ⟨.inr rfl, ?_⟩ | refine ⟨.inr (IsL.ren1 ‹_›), ?_⟩ | refine ⟨(.inr (base_ren hL hLs)), ?_⟩ | fail) (by decide) (fun _ h => absurd h (by omega)) ⟨.inr ⟨_, rfl, ren_arr (base_renO hL hLs)⟩, .inr ⟨_, rfl, ren_arr (mapL_cons (mapL_cons hXL.ren0 mapL_nil) mapL_nil)⟩, .inr ⟨_, rfl, rfl⟩, .inl rfl, trivial⟩ (fun a => ⟨Nat.zero_le _, (by repeat' first | exact trivial | exact .inr ⟨_, rfl, rfl⟩ | exact IsL.valN ‹_› | exact (base_N hL hLs) | exact (pval_N rfl) | refine ⟨?_, ?_⟩ | fail), ⟨(fun r hr x hx => by simp at hr; subst hr; simp at hx; rcases hx with rfl | rfl | rfl | rfl <;> first | trivial | exact IsL.leafN (by assumption)), (fun r hr x hx => by simp at hr; subst hr; simp at hx; subst hx; exact IsL.leafN (by assumption)), rowsN_val wrows_val, pobj_N wrows_val, trivial⟩⟩) ?_
  rintro ⟨⟨i, ws, tt⟩, hI⟩ Y0 hY0
  refine vc_norm (env' := (_ :: _ :: _ :: _ :: _ :: (pval 3 (wrows ws)) :: (.row tt 2 0 (ws.length + 1)) :: _ :: _ :: _ :: _ :: _ :: _ :: _ :: _ :: _ :: _ :: _ :: (.int .i64 (i : Int)) :: _ :: _ :: _ :: _ :: _ :: _ :: _ :: _ :: _ :: _ :: _ :: _ :: _ :: _ :: _ :: _ :: _ :: _ :: _ :: _ :: _ :: _ :: _ :: _ :: _ :: _ :: _ :: _ :: _ :: _ :: _ :: _ :: _ :: _ :: _ :: _ :: _ :: _ :: _ :: _ :: _ :: _ :: _ :: _ :: _ :: _ :: _ :: _ :: _ :: _ :: _ :: _ :: _ :: _ :: _ :: _ :: _ :: _ :: _ :: _ :: _ :: _ :: _ :: _ :: _ :: _ :: _ :: _ :: _ :: _ :: _ :: _ :: _ :: _ :: _ :: _ :: _ :: _ :: _ :: [])) (H' := [VO.arr 25 4 [[.str b.name, .int .i64 b.kind, b.tx, b.sx]], VO.arr 26 1 [[x]], VO.arr 3 1 (wrows (ws ++ [-1])), pobj 3 1 (wrows ws)]) rfl rfl ?_
  replace hI : VInv b f i ws := hI
  have hIl := hI.len
  have hIle := hI.le
  have hxlen := hx.len
  refine vs (wr ?_)
  refine wN rfl rfl rfl (v98 rfl ?_)
  refine we rfl (vs ?_)
  refine vc_cond rfl (fun hc19 => ?_) (fun hc19 => ?_)
  ·
   have hlt : i < f.length := by have := of_decide_eq_true hc19; omega
   obtain ⟨y, hyy⟩ : ∃ y, f[i]? = some y := ⟨_, List.getElem?_eq_getElem hlt⟩
   have hri := hx.at hyy
   have hys := hx.short y (List.mem_of_getElem? hyy)
   refine vc_skip (n_then (vs (vc_block (vs (wr ?_)))))
   refine wN rfl rfl rfl (v98 rfl ?_)
   first | refine wN (v := .iptr _ [_, _]) rfl rfl rfl (v98 rfl ?_) | (refine x_index rfl rfl ‹_› rfl el26 (by omega) ‹_› rfl (fun bo => ?_); refine v98 rfl ?_)
   refine wN (v := .agg [_, _]) rfl rfl rfl (v98 rfl ?_)
   refine w_opH (v := .ptr 4 0 0) (env' := _) (H2 := [VO.arr 25 4 [[.str b.name, .int .i64 b.kind, b.tx, b.sx]], VO.arr 26 1 [[x]], VO.arr 3 1 (wrows (ws ++ [-1])), pobj 3 1 (wrows ws), .arr 64 2 [[_, _]]]) rfl rfl rfl rfl (fun _ h => h) (v98 rfl ?_)
   refine wN rfl rfl rfl (v98 rfl ?_)
   refine w_op0N (H2 := [VO.arr 25 4 [[.str b.name, .int .i64 b.kind, b.tx, b.sx]], VO.arr 26 1 [[x]], VO.arr 3 1 (wrows (ws ++ [-1])), pobj 3 1 (wrows ws), .arr 64 2 [[_, _]]]) rfl rfl rfl (fun _ h => h) ?_
   refine we rfl (vs (vs (wr ?_)))
   refine wN (v := .agg [_, _, _, _]) rfl rfl rfl (v98 rfl ?_)
   refine wN (v := .agg [_, _]) rfl rfl rfl (v98 rfl ?_)
   refine w_callI (env' := _) rfl rfl rfl (by kernel_rfl) rfl (by repeat' first | exact IsL.lend ‹_› | exact IsL.lend0 ‹_› | refine mapL_cons ?_ ?_ | refine lend_agg ?_ | rfl) (zFits G b hb y hys) rfl (v98 rfl ?_)
   refine wN rfl rfl rfl (v98 rfl ?_)
   refine we rfl ?_
   refine vc_cond rfl (fun hc26 => ?_) (fun hc26 => ?_)
   ·
    have hfit : fitsI b y = false := by simpa using hc26
    refine vs (wr ?_)
    refine wN rfl rfl rfl (v98 rfl ?_)
    refine we rfl (vc_ret (r_then (r_block (r_then (r_then (r_block (r_then (r_fn rfl ?_))))))))
    have hs : vstep b f i ws y = none := by rw [vstep, if_pos hfit]
    show some (AV.bool false) = some (AV.bool (validP b f))
    rw [hI.bad hyy hs]
   ·
    have hfit : fitsI b y = true := by simpa using hc26
    obtain ⟨t, ht, h0, h1, hym, hys2⟩ := fits_type hfit
    have hrt : (lrows b.tx)[(y.type).toNat]? = some [.str t.name, .int .i64 t.parent, .int .i64 t.min, .int .i64 t.size, t.fx, .int .i64 t.key, .bool t.unique, .bool t.last] := by rw [hb.types.rows, List.getElem?_map, ht]; rfl
    have hti := hb.types.each t (List.mem_of_getElem? ht)
    have hfL := hti.fx.isL
    have hok := ok_types hv ht
    have hpt : parentOf b.types y.type = t.parent := by simp only [parentOf, ht]
    refine vc_skip (n_then (vs (wr ?_)))
    refine wN (v := .ptr 0 0 2) rfl rfl rfl (v98 rfl ?_)
    refine wN rfl rfl rfl (v98 rfl ?_)
    refine wN (v := .ptr 4 0 0) rfl rfl rfl (v98 rfl ?_)
    refine wN rfl rfl rfl (v98 rfl ?_)
    first | refine wN (v := .iptr _ [_, _, _, _, _, _, _, _]) rfl rfl rfl (v98 rfl ?_) | (refine x_index rfl rfl ‹_› rfl el22 (by omega) ‹_› rfl (fun bo => ?_); refine v98 rfl ?_)
    refine wN (v := .iptr _ [_, _, _, _, _, _, _]) rfl rfl rfl (v98 rfl ?_)
    refine wN rfl rfl rfl (v98 rfl ?_)
    refine w_opH (v := .ptr 5 0 0) (env' := _) (H2 := [VO.arr 25 4 [[.str b.name, .int .i64 b.kind, b.tx, b.sx]], VO.arr 26 1 [[x]], VO.arr 3 1 (wrows (ws ++ [-1])), pobj 3 1 (wrows ws), .arr 64 2 [[_, _]], .arr 3 1 [[_]]]) rfl rfl rfl rfl (fun _ h => h) (v98 rfl ?_)
    refine w_op0N (H2 := [VO.arr 25 4 [[.str b.name, .int .i64 b.kind, b.tx, b.sx]], VO.arr 26 1 [[x]], VO.arr 3 1 (wrows (ws ++ [-1])), pobj 3 1 (wrows ws), .arr 64 2 [[_, _]], .arr 3 1 [[_]]]) rfl rfl rfl (fun _ h => h) ?_
    refine we rfl (vs (wr ?_))
    obtain ⟨m0, hmz⟩ : ∃ m : Nat, m = 0 := ⟨0, rfl⟩
    refine wN (v := .int .i64 ((m0 : Nat) : Int)) rfl (int_eq (by rw [hmz]; rfl)) rfl (v98 rfl ?_)
    refine we rfl (vs (vs (wr ?_)))
    iterate 2 refine wN rfl rfl rfl (v98 rfl ?_)
    refine we rfl ?_
    refine vc_cond rfl (fun hc35 => ?_) (fun hc35 => ?_)
    ·
     have hp0 : t.parent ≥ 0 := of_decide_eq_true hc35
     refine vs (wr ?_)
     iterate 2 refine wN rfl rfl rfl (v98 rfl ?_)
     refine w_callS rfl rfl rfl (by kernel_rfl) rfl (zIdxX G [VO.arr 25 4 [[.str b.name, .int .i64 b.kind, b.tx, b.sx]], VO.arr 26 1 [[x]], VO.arr 3 1 (wrows (ws ++ [-1])), pobj 3 1 (wrows ws), VO.arr 64 2 [[.int .i64 y.type, .str y.data]], VO.arr 3 1 [[.int .i64 t.parent]]] 3 ws rfl 127 [.ptr 1 0 0, .ptr 5 0 0] (isTy f t.parent) (by have := hI.len; have := hx.len; have := hI.le; omega) (by kernel_rfl) (fun w hw => zIsTy G [VO.arr 25 4 [[.str b.name, .int .i64 b.kind, b.tx, b.sx]], VO.arr 26 1 [[x]], VO.arr 3 1 (wrows (ws ++ [-1])), pobj 3 1 (wrows ws), VO.arr 64 2 [[.int .i64 y.type, .str y.data]], VO.arr 3 1 [[.int .i64 t.parent]]] 1 5 x f hx t.parent w rfl rfl (hI.bound w hw).1 (by have := (hI.bound w hw).2; omega))) ?_
     rintro _ _ ⟨rfl, rfl⟩
     refine v98 rfl ?_
     have hfr := fidx_range (p := intP (isTy f t.parent)) (rows := wrows ws)
     have hwl0 : (wrows ws).length = ws.length := by simp [wrows]
     obtain ⟨m, hmI⟩ : ∃ m : Nat, 1 + fidx (intP (isTy f t.parent)) (wrows ws) = (m : Int) := ⟨(1 + fidx (intP (isTy f t.parent)) (wrows ws)).toNat, by omega⟩
     have hm : slotOf b f ws y.type = ((m : Nat) : Int) := by rw [slotOf, hpt, if_pos hp0, hmI]
     refine wN (v := .int .i64 ((m : Nat) : Int)) rfl (int_eq (by rw [hmI]; exact wrap_nat (by omega))) rfl (v98 rfl ?_)
     refine wN rfl rfl rfl (v98 rfl ?_)
     refine we rfl (vs (wr ?_))
     iterate 2 refine wN rfl rfl rfl (v98 rfl ?_)
     refine we rfl ?_
     refine vc_cond rfl (fun hc41 => ?_) (fun hc41 => ?_)
     ·
      have hm0 : slotOf b f ws y.type = 0 := by rw [hm]; simpa using hc41
      refine vs (wr ?_)
      refine wN rfl rfl rfl (v98 rfl ?_)
      refine we rfl (vc_ret (r_then (r_block (r_then (r_then (r_block (r_then (r_fn rfl ?_))))))))
      have hs : vstep b f i ws y = none := by rw [vstep, if_neg (by rw [hfit]; simp), if_pos ⟨by rw [hpt]; exact hp0, hm0⟩]
      show some (AV.bool false) = some (AV.bool (validP b f))
      rw [hI.bad hyy hs]
     ·
      have hslot : ¬ (parentOf b.types y.type ≥ 0 ∧ slotOf b f ws y.type = 0) := fun h => by rw [hm] at h; simp at hc41; omega
      refine vc_skip (n_then (vs (vs (wr ?_))))
      have hsl := slot_le (b := b) (f := f) (ws := ws) (t := y.type)
      have hmN : (slotOf b f ws y.type).toNat = m := by omega
      obtain ⟨k, hk⟩ : ∃ k, (ws ++ [-1])[m]? = some k := ⟨_, List.getElem?_eq_getElem (by simp; omega)⟩
      have hkD : (ws ++ [-1]).getD (slotOf b f ws y.type).toNat (-1) = k := by rw [hmN, List.getD, hk]; rfl
      have hkb : -1 ≤ k ∧ k < i := by
       rcases List.mem_append.1 (List.mem_of_getElem? hk) with h | h
       · have := hI.bound k h; omega
       · simp at h; omega
      have hrk : (wrows (ws ++ [-1]))[m]? = some [.int .i64 k] := wrows_at hk
      iterate 2 refine wN rfl rfl rfl (v98 rfl ?_)
      refine wN (v := .ptr 2 m 0) rfl (g_indexN (H := [VO.arr 25 4 [[.str b.name, .int .i64 b.kind, b.tx, b.sx]], VO.arr 26 1 [[x]], VO.arr 3 1 (wrows (ws ++ [-1])), pobj 3 1 (wrows ws), VO.arr 64 2 [[.int .i64 y.type, .str y.data]], VO.arr 3 1 [[.int .i64 t.parent]]]) (rows := wrows (ws ++ [-1])) el35 rfl (by omega) (by omega) rfl) rfl (v98 rfl ?_)
      refine wN (v := .int .i64 k) rfl (g_load (H := [VO.arr 25 4 [[.str b.name, .int .i64 b.kind, b.tx, b.sx]], VO.arr 26 1 [[x]], VO.arr 3 1 (wrows (ws ++ [-1])), pobj 3 1 (wrows ws), VO.arr 64 2 [[.int .i64 y.type, .str y.data]], VO.arr 3 1 [[.int .i64 t.parent]]]) (l := 2) rfl hrk rfl) rfl (v98 rfl ?_)
      refine wN rfl rfl rfl (v98 rfl ?_)
      refine we rfl (vs (w_regionD (by kernel_rfl) ?_))
      iterate 3 refine dN rfl rfl rfl (d98 rfl ?_)
      refine d_split 48 rfl (fun hg48 => ?_) (fun hg48 => ?_)
      ·
       have hk0 : 0 ≤ k := of_decide_eq_true hg48
       obtain ⟨z, hz⟩ : ∃ z, f[k.toNat]? = some z := ⟨_, List.getElem?_eq_getElem (by omega)⟩
       have hrz := hx.at hz
       refine d98 rfl ?_
       iterate 2 refine dN (wanted_t 48 (by kernel_rfl) rfl) rfl rfl (d98 rfl ?_)
       first | refine dN (v := .iptr _ [_, _]) (wanted_t 48 (by kernel_rfl) rfl) rfl rfl (d98 rfl ?_) | (refine y_index (wanted_t 48 (by kernel_rfl) rfl) rfl ‹_› rfl el26 (by omega) ‹_› rfl (fun bo => ?_); refine d98 rfl ?_)
       refine dN (v := .iptr _ [_, _]) (wanted_t 48 (by kernel_rfl) rfl) rfl rfl (d98 rfl ?_)
       refine dN (wanted_t 48 (by kernel_rfl) rfl) rfl rfl (d98 rfl ?_)
       refine dN (v := .ptr 4 0 0) (wanted_t 48 (by kernel_rfl) rfl) rfl rfl (d98 rfl ?_)
       iterate 3 refine dN (wanted_t 48 (by kernel_rfl) rfl) rfl rfl (d98 rfl ?_)
       refine d_split 57 rfl (fun hg57 => ?_) (fun hg57 => ?_)
       ·
        refine d98 rfl ?_
        iterate 9 refine dS (wanted_f 57 (by kernel_rfl) rfl) (d98 rfl ?_)
        iterate 15 refine dS (wanted_k 66 (by kernel_rfl) rfl) (d98 rfl ?_)
        refine dS (wanted_f 57 (by kernel_rfl) rfl) (d98 rfl ?_)
        refine dN (wanted_t 48 (by kernel_rfl) rfl) rfl rfl (d98 rfl ?_)
        refine dN rfl rfl rfl (d98 rfl ?_)
        refine d_end rfl ?_
        refine vc_true rfl ?_
        refine vs (wr ?_)
        refine wN rfl rfl rfl (v98 rfl ?_)
        refine we rfl (vc_ret (r_then (r_block (r_then (r_then (r_block (r_then (r_fn rfl ?_))))))))
        have htb : twinBad b f k y = true := by rw [twinBad, hz, ht]; simp only [hg57, hg48, Bool.true_or, Bool.and_self]
        have hs : vstep b f i ws y = none := by rw [vstep, if_neg (by rw [hfit]; simp), if_neg hslot, hkD, if_pos htb]
        show some (AV.bool false) = some (AV.bool (validP b f))
        rw [hI.bad hyy hs]
       ·
        refine d98 rfl ?_
        iterate 2 refine dN (wanted_t 57 (by kernel_rfl) rfl) rfl rfl (d98 rfl ?_)
        first | refine dN (v := .iptr _ [_, _]) (wanted_t 57 (by kernel_rfl) rfl) rfl rfl (d98 rfl ?_) | (refine y_index (wanted_t 57 (by kernel_rfl) rfl) rfl ‹_› rfl el26 (by omega) ‹_› rfl (fun bo => ?_); refine d98 rfl ?_)
        refine dN (v := .iptr _ [_, _]) (wanted_t 57 (by kernel_rfl) rfl) rfl rfl (d98 rfl ?_)
        refine dN (wanted_t 57 (by kernel_rfl) rfl) rfl rfl (d98 rfl ?_)
        refine dN (v := .ptr 4 0 0) (wanted_t 57 (by kernel_rfl) rfl) rfl rfl (d98 rfl ?_)
        iterate 3 refine dN (wanted_t 57 (by kernel_rfl) rfl) rfl rfl (d98 rfl ?_)
        refine d_split 66 rfl (fun hg66 => ?_) (fun hg66 => ?_)
        ·
         have hzt : z.type = y.type := by simpa using hg66
         refine d98 rfl ?_
         refine dN (v := .ptr 0 0 2) (wanted_t 66 (by kernel_rfl) rfl) rfl rfl (d98 rfl ?_)
         refine dN (wanted_t 66 (by kernel_rfl) rfl) rfl rfl (d98 rfl ?_)
         refine dN (v := .ptr 4 0 0) (wanted_t 66 (by kernel_rfl) rfl) rfl rfl (d98 rfl ?_)
         refine dN (wanted_t 66 (by kernel_rfl) rfl) rfl rfl (d98 rfl ?_)
         first | refine dN (v := .iptr _ [_, _, _, _, _, _, _, _]) (wanted_t 66 (by kernel_rfl) rfl) rfl rfl (d98 rfl ?_) | (refine y_index (wanted_t 66 (by kernel_rfl) rfl) rfl ‹_› rfl el22 (by omega) ‹_› rfl (fun bo => ?_); refine d98 rfl ?_)
         refine dN (v := .agg [_, _, _, _, _, _, _, _]) (wanted_t 66 (by kernel_rfl) rfl) rfl rfl (d98 rfl ?_)
         iterate 2 refine dN (wanted_t 66 (by kernel_rfl) rfl) rfl rfl (d98 rfl ?_)
         first | refine dN (v := .iptr _ [_, _]) (wanted_t 66 (by kernel_rfl) rfl) rfl rfl (d98 rfl ?_) | (refine y_index (wanted_t 66 (by kernel_rfl) rfl) rfl ‹_› rfl el26 (by omega) ‹_› rfl (fun bo => ?_); refine d98 rfl ?_)
         refine dN (v := .iptr _ [_]) (wanted_t 66 (by kernel_rfl) rfl) rfl rfl (d98 rfl ?_)
         refine dN (wanted_t 66 (by kernel_rfl) rfl) rfl rfl (d98 rfl ?_)
         refine dN (v := .ptr 4 0 1) (wanted_t 66 (by kernel_rfl) rfl) rfl rfl (d98 rfl ?_)
         refine dN (wanted_t 66 (by kernel_rfl) rfl) rfl rfl (d98 rfl ?_)
         refine d_callI (env' := _) (wanted_t 66 (by kernel_rfl) rfl) rfl rfl (by kernel_rfl) rfl (by repeat' first | exact IsL.lend ‹_› | exact IsL.lend0 ‹_› | refine mapL_cons ?_ ?_ | refine lend_agg ?_ | rfl) (zInOrder G t hti z.data y.data (hx.short z (List.mem_of_getElem? hz)) hys (key_in hok (by obtain ⟨t2, h1, h2, h3, h4, h5⟩ := fits_type (hI.fit _ z (by omega) hz); rw [hzt, ht] at h1; cases h1; exact h4)) (key_in hok hym)) rfl (d98 rfl ?_)
         refine dN (wanted_t 66 (by kernel_rfl) rfl) rfl rfl (d98 rfl ?_)
         refine dN (wanted_t 57 (by kernel_rfl) rfl) rfl rfl (d98 rfl ?_)
         refine dN (wanted_t 48 (by kernel_rfl) rfl) rfl rfl (d98 rfl ?_)
         refine dN rfl rfl rfl (d98 rfl ?_)
         refine d_end rfl ?_
         refine vc_cond rfl (fun hc84 => ?_) (fun hc84 => ?_)
         ·
          refine vs (wr ?_)
          refine wN rfl rfl rfl (v98 rfl ?_)
          refine we rfl (vc_ret (r_then (r_block (r_then (r_then (r_block (r_then (r_fn rfl ?_))))))))
          have htb : twinBad b f k y = true := by rw [twinBad, hz, ht]; simp only [hg57, hg66, hg48, hc84, Bool.and_self, Bool.or_true]
          have hs : vstep b f i ws y = none := by rw [vstep, if_neg (by rw [hfit]; simp), if_neg hslot, hkD, if_pos htb]
          show some (AV.bool false) = some (AV.bool (validP b f))
          rw [hI.bad hyy hs]
         ·
          have htb : twinBad b f k y = false := by rw [twinBad, hz, ht]; simp only [hg57, hg66, hg48, hc84, Bool.and_false, Bool.or_false, Bool.and_self, Bool.true_and, Bool.false_or]
          refine vc_skip (n_then ?_)
          refine w_regionW [[VO.arr 25 4 [[.str b.name, .int .i64 b.kind, b.tx, b.sx]], VO.arr 26 1 [[x]], VO.arr 3 1 (wrows (ws ++ [-1])), VO.dead, VO.arr 64 2 [[.int .i64 y.type, .str y.data]], VO.arr 3 1 [[.int .i64 t.parent]], VO.arr 3 1 ((wrows ws).take m ++ [[AV.int .i64 (i : Int)]])], [VO.arr 25 4 [[.str b.name, .int .i64 b.kind, b.tx, b.sx]], VO.arr 26 1 [[x]], VO.dead, VO.dead, VO.arr 64 2 [[.int .i64 y.type, .str y.data]], VO.arr 3 1 [[.int .i64 t.parent]], VO.arr 3 1 ((wrows ws).take m ++ [[AV.int .i64 (i : Int)]]), VO.arr 3 1 ((wrows (ws ++ [-1])).take m ++ [[AV.int .i64 (i : Int)], [AV.int .i64 (-1)]])]] (by kernel_rfl) ?_
          have hs : vstep b f i ws y = some (ws.take m ++ [(i : Int)]) := by rw [vstep, if_neg (by rw [hfit]; simp), if_neg hslot, hkD, if_neg (by rw [htb]; simp), hmN]
          have hwr : wrows (ws.take m ++ [(i : Int)]) = (wrows ws).take m ++ [[AV.int .i64 (i : Int)]] := by simp [wrows, List.map_take]
          have hwl : ((wrows ws).take m).length = m := by simp [wrows]; omega
          have hml : m ≤ (wrows ws).length := by simp [wrows]; omega
          have hlr : wrows (ws.take m ++ [(i : Int)] ++ [-1]) = (wrows (ws ++ [-1])).take m ++ [[AV.int .i64 (i : Int)], [AV.int .i64 (-1)]] := by rw [wrows, List.map_append, List.map_append, List.map_take, wrows, List.map_append, List.take_append_of_le_length (by simp; omega)]; simp
          have hl2 : (ws.take m ++ [(i : Int)]).length + 1 = m + 2 := by simp; omega
          iterate 2 refine e_op (env' := _) rfl (by decide) (show _ = (0, 0) by kernel_rfl) (by decide) (fun _ _ h => h) (fun q h1 h2 => rfl) rfl (w98 rfl ?_)
          refine e_op (v := pcut 3 (wrows ws) m) (env' := _) rfl (by decide) (show _ = (0, 0) by kernel_rfl) (by decide) (fun _ _ h => h) (fun q h1 h2 => (match q, h2 with | 0, _ => pcut_run (H := [VO.arr 25 4 [[.str b.name, .int .i64 b.kind, b.tx, b.sx]], VO.arr 26 1 [[x]], VO.arr 3 1 (wrows (ws ++ [-1])), pobj 3 1 (wrows ws), VO.arr 64 2 [[.int .i64 y.type, .str y.data]], VO.arr 3 1 [[.int .i64 t.parent]]]) (sz := 1) Tryz.underlying35 sz3 rfl hml | q + 1, h2 => absurd h2 (by omega))) rfl (w98 rfl ?_)
          iterate 2 refine e_op (env' := _) rfl (by decide) (show _ = (0, 0) by kernel_rfl) (by decide) (fun _ _ h => h) (fun q h1 h2 => rfl) rfl (w98 rfl ?_)
          refine e_eff (H0 := [VO.arr 25 4 [[.str b.name, .int .i64 b.kind, b.tx, b.sx]], VO.arr 26 1 [[x]], VO.arr 3 1 (wrows (ws ++ [-1])), pobj 3 1 (wrows ws), VO.arr 64 2 [[.int .i64 y.type, .str y.data]], VO.arr 3 1 [[.int .i64 t.parent]]]) (H1 := [VO.arr 25 4 [[.str b.name, .int .i64 b.kind, b.tx, b.sx]], VO.arr 26 1 [[x]], VO.arr 3 1 (wrows (ws ++ [-1])), VO.dead, VO.arr 64 2 [[.int .i64 y.type, .str y.data]], VO.arr 3 1 [[.int .i64 t.parent]], VO.arr 3 1 ((wrows ws).take m ++ [[AV.int .i64 (i : Int)]])]) (v := .row false 6 0 (m + 1)) (env' := _) rfl rfl (show _ = (0, 1) by kernel_rfl) rfl rfl (fun _ _ h => h) (acc_cut (H := [VO.arr 25 4 [[.str b.name, .int .i64 b.kind, b.tx, b.sx]], VO.arr 26 1 [[x]], VO.arr 3 1 (wrows (ws ++ [-1])), pobj 3 1 (wrows ws), VO.arr 64 2 [[.int .i64 y.type, .str y.data]], VO.arr 3 1 [[.int .i64 t.parent]]]) (L := 3) (rows := wrows ws) (news := [[.int .i64 (i : Int)]]) (x := .list .tight [[.int .i64 (i : Int)]]) (sz := 1) rfl hml el35 Tryz.underlying35 rfl zc3 by3 rfl rfl (by decide) (by decide) rfl rfl (by simp) rfl (by simp; have := hI.len; have := hx.len; have := hI.le; omega)) rfl (w98 rfl ?_)
          iterate 2 refine e_op (env' := _) rfl (by decide) (show _ = (0, 1) by kernel_rfl) (by decide) (fun _ _ h => h) (fun q h1 h2 => rfl) rfl (w98 rfl ?_)
          refine e_op (v := .row false 2 0 m) (env' := _) rfl (by decide) (show _ = (0, 1) by kernel_rfl) (by decide) (fun _ _ h => h) (fun q h1 h2 => (match q, h2 with | 0, _ => row_cut (H := [VO.arr 25 4 [[.str b.name, .int .i64 b.kind, b.tx, b.sx]], VO.arr 26 1 [[x]], VO.arr 3 1 (wrows (ws ++ [-1])), pobj 3 1 (wrows ws), VO.arr 64 2 [[.int .i64 y.type, .str y.data]], VO.arr 3 1 [[.int .i64 t.parent]]]) (rows := wrows (ws ++ [-1])) (sz := 1) Tryz.underlying35 sz3 rfl (by omega) | 1, _ => row_cut (H := [VO.arr 25 4 [[.str b.name, .int .i64 b.kind, b.tx, b.sx]], VO.arr 26 1 [[x]], VO.arr 3 1 (wrows (ws ++ [-1])), VO.dead, VO.arr 64 2 [[.int .i64 y.type, .str y.data]], VO.arr 3 1 [[.int .i64 t.parent]], VO.arr 3 1 ((wrows ws).take m ++ [[AV.int .i64 (i : Int)]])]) (rows := wrows (ws ++ [-1])) (sz := 1) Tryz.underlying35 sz3 rfl (by omega) | q + 2, h2 => absurd h2 (by omega))) rfl (w98 rfl ?_)
          iterate 2 refine e_op (env' := _) rfl (by decide) (show _ = (0, 1) by kernel_rfl) (by decide) (fun _ _ h => h) (fun q h1 h2 => rfl) rfl (w98 rfl ?_)
          refine e_eff (H0 := [VO.arr 25 4 [[.str b.name, .int .i64 b.kind, b.tx, b.sx]], VO.arr 26 1 [[x]], VO.arr 3 1 (wrows (ws ++ [-1])), VO.dead, VO.arr 64 2 [[.int .i64 y.type, .str y.data]], VO.arr 3 1 [[.int .i64 t.parent]], VO.arr 3 1 ((wrows ws).take m ++ [[AV.int .i64 (i : Int)]])]) (H1 := [VO.arr 25 4 [[.str b.name, .int .i64 b.kind, b.tx, b.sx]], VO.arr 26 1 [[x]], VO.dead, VO.dead, VO.arr 64 2 [[.int .i64 y.type, .str y.data]], VO.arr 3 1 [[.int .i64 t.parent]], VO.arr 3 1 ((wrows ws).take m ++ [[AV.int .i64 (i : Int)]]), VO.arr 3 1 ((wrows (ws ++ [-1])).take m ++ [[AV.int .i64 (i : Int)], [AV.int .i64 (-1)]])]) (v := .row false 7 0 (m + 2)) (env' := _) rfl rfl (show _ = (1, 2) by kernel_rfl) rfl rfl (fun _ _ h => h) (row_app (H := [VO.arr 25 4 [[.str b.name, .int .i64 b.kind, b.tx, b.sx]], VO.arr 26 1 [[x]], VO.arr 3 1 (wrows (ws ++ [-1])), VO.dead, VO.arr 64 2 [[.int .i64 y.type, .str y.data]], VO.arr 3 1 [[.int .i64 t.parent]], VO.arr 3 1 ((wrows ws).take m ++ [[AV.int .i64 (i : Int)]])]) (L := 2) (rows := wrows (ws ++ [-1])) (news := [[.int .i64 (i : Int)], [.int .i64 (-1)]]) (x := .list .tight [[.int .i64 (i : Int)], [.int .i64 (-1)]]) (sz := 1) rfl (by simp [wrows]; omega) el35 Tryz.underlying35 rfl zc3 by3 rfl rfl (by decide) (by decide) rfl rfl (by simp) rfl (by simp; have := hI.len; have := hx.len; have := hI.le; omega)) rfl (w98 rfl ?_)
          iterate 2 refine e_op (env' := _) rfl (by decide) (show _ = (2, 2) by kernel_rfl) (by decide) (fun _ _ h => h) (fun q h1 h2 => rfl) rfl (w98 rfl ?_)
          refine e_endB rfl ?_
          refine n_then (wr ?_)
          iterate 2 refine wN rfl rfl rfl (v98 rfl ?_)
          refine we rfl ?_
          refine hY0 ⟨(i + 1, ws.take m ++ [(i : Int)], false), hI.next hyy hs⟩ (by have := hI.le; simp only; omega) _ _ [0, 1, 7, 6] ?_ (by decide) (fun _ h => absurd h (by omega)) ⟨.inr ⟨_, rfl, ren_arr (base_renO hL hLs)⟩, .inr ⟨_, rfl, ren_arr (mapL_cons (mapL_cons hXL.ren0 mapL_nil) mapL_nil)⟩, .inr ⟨_, rfl, by show renO _ (.arr 3 1 (wrows (ws.take m ++ [(i : Int)] ++ [-1]))) = _; rw [hlr]; exact ren_arr (ren_rows (by rw [← hlr]; exact wrows_val))⟩, .inr ⟨_, rfl, by rw [hwr]; exact pobj_snoc (by rw [← hwr]; exact wrows_val)⟩, trivial⟩
          repeat' first | exact trivial | refine ⟨.inl rfl, ?_⟩ | refine ⟨.inr rfl, ?_⟩ | refine ⟨.inr (IsL.ren1 ‹_›), ?_⟩ | refine ⟨(.inr (base_ren hL hLs)), ?_⟩ | refine ⟨(.inr (by rw [hwr]; exact (pval_snoc rfl).trans (by rw [hwl]))), ?_⟩ | refine ⟨(.inr (by show Vi.ren1 _ (.row false 2 0 ((ws.take m ++ [(i : Int)]).length + 1)) = _; rw [hl2]; rfl)), ?_⟩ | refine ⟨(.inr ?_), ?_⟩ | fail
          all_goals first | (exact congrArg some (int_succ (by have := hx.len; omega)).symm)
        ·
         have htb : twinBad b f k y = false := by rw [twinBad, hz, ht]; simp only [hg57, hg66, Bool.false_and, Bool.or_false, Bool.and_false]
         refine d98 rfl ?_
         iterate 15 refine dS (wanted_f 66 (by kernel_rfl) rfl) (d98 rfl ?_)
         refine dN (wanted_t 57 (by kernel_rfl) rfl) rfl rfl (d98 rfl ?_)
         refine dN (wanted_t 48 (by kernel_rfl) rfl) rfl rfl (d98 rfl ?_)
         refine dN rfl rfl rfl (d98 rfl ?_)
         refine d_end rfl ?_
         refine vc_false rfl ?_
         refine vc_skip (n_then ?_)
         refine w_regionW [[VO.arr 25 4 [[.str b.name, .int .i64 b.kind, b.tx, b.sx]], VO.arr 26 1 [[x]], VO.arr 3 1 (wrows (ws ++ [-1])), VO.dead, VO.arr 64 2 [[.int .i64 y.type, .str y.data]], VO.arr 3 1 [[.int .i64 t.parent]], VO.arr 3 1 ((wrows ws).take m ++ [[AV.int .i64 (i : Int)]])], [VO.arr 25 4 [[.str b.name, .int .i64 b.kind, b.tx, b.sx]], VO.arr 26 1 [[x]], VO.dead, VO.dead, VO.arr 64 2 [[.int .i64 y.type, .str y.data]], VO.arr 3 1 [[.int .i64 t.parent]], VO.arr 3 1 ((wrows ws).take m ++ [[AV.int .i64 (i : Int)]]), VO.arr 3 1 ((wrows (ws ++ [-1])).take m ++ [[AV.int .i64 (i : Int)], [AV.int .i64 (-1)]])]] (by kernel_rfl) ?_
         have hs : vstep b f i ws y = some (ws.take m ++ [(i : Int)]) := by rw [vstep, if_neg (by rw [hfit]; simp), if_neg hslot, hkD, if_neg (by rw [htb]; simp), hmN]
         have hwr : wrows (ws.take m ++ [(i : Int)]) = (wrows ws).take m ++ [[AV.int .i64 (i : Int)]] := by simp [wrows, List.map_take]
         have hwl : ((wrows ws).take m).length = m := by simp [wrows]; omega
         have hml : m ≤ (wrows ws).length := by simp [wrows]; omega
         have hlr : wrows (ws.take m ++ [(i : Int)] ++ [-1]) = (wrows (ws ++ [-1])).take m ++ [[AV.int .i64 (i : Int)], [AV.int .i64 (-1)]] := by rw [wrows, List.map_append, List.map_append, List.map_take, wrows, List.map_append, List.take_append_of_le_length (by simp; omega)]; simp
         have hl2 : (ws.take m ++ [(i : Int)]).length + 1 = m + 2 := by simp; omega
         iterate 2 refine e_op (env' := _) rfl (by decide) (show _ = (0, 0) by kernel_rfl) (by decide) (fun _ _ h => h) (fun q h1 h2 => rfl) rfl (w98 rfl ?_)
         refine e_op (v := pcut 3 (wrows ws) m) (env' := _) rfl (by decide) (show _ = (0, 0) by kernel_rfl) (by decide) (fun _ _ h => h) (fun q h1 h2 => (match q, h2 with | 0, _ => pcut_run (H := [VO.arr 25 4 [[.str b.name, .int .i64 b.kind, b.tx, b.sx]], VO.arr 26 1 [[x]], VO.arr 3 1 (wrows (ws ++ [-1])), pobj 3 1 (wrows ws), VO.arr 64 2 [[.int .i64 y.type, .str y.data]], VO.arr 3 1 [[.int .i64 t.parent]]]) (sz := 1) Tryz.underlying35 sz3 rfl hml | q + 1, h2 => absurd h2 (by omega))) rfl (w98 rfl ?_)
         iterate 2 refine e_op (env' := _) rfl (by decide) (show _ = (0, 0) by kernel_rfl) (by decide) (fun _ _ h => h) (fun q h1 h2 => rfl) rfl (w98 rfl ?_)
         refine e_eff (H0 := [VO.arr 25 4 [[.str b.name, .int .i64 b.kind, b.tx, b.sx]], VO.arr 26 1 [[x]], VO.arr 3 1 (wrows (ws ++ [-1])), pobj 3 1 (wrows ws), VO.arr 64 2 [[.int .i64 y.type, .str y.data]], VO.arr 3 1 [[.int .i64 t.parent]]]) (H1 := [VO.arr 25 4 [[.str b.name, .int .i64 b.kind, b.tx, b.sx]], VO.arr 26 1 [[x]], VO.arr 3 1 (wrows (ws ++ [-1])), VO.dead, VO.arr 64 2 [[.int .i64 y.type, .str y.data]], VO.arr 3 1 [[.int .i64 t.parent]], VO.arr 3 1 ((wrows ws).take m ++ [[AV.int .i64 (i : Int)]])]) (v := .row false 6 0 (m + 1)) (env' := _) rfl rfl (show _ = (0, 1) by kernel_rfl) rfl rfl (fun _ _ h => h) (acc_cut (H := [VO.arr 25 4 [[.str b.name, .int .i64 b.kind, b.tx, b.sx]], VO.arr 26 1 [[x]], VO.arr 3 1 (wrows (ws ++ [-1])), pobj 3 1 (wrows ws), VO.arr 64 2 [[.int .i64 y.type, .str y.data]], VO.arr 3 1 [[.int .i64 t.parent]]]) (L := 3) (rows := wrows ws) (news := [[.int .i64 (i : Int)]]) (x := .list .tight [[.int .i64 (i : Int)]]) (sz := 1) rfl hml el35 Tryz.underlying35 rfl zc3 by3 rfl rfl (by decide) (by decide) rfl rfl (by simp) rfl (by simp; have := hI.len; have := hx.len; have := hI.le; omega)) rfl (w98 rfl ?_)
         iterate 2 refine e_op (env' := _) rfl (by decide) (show _ = (0, 1) by kernel_rfl) (by decide) (fun _ _ h => h) (fun q h1 h2 => rfl) rfl (w98 rfl ?_)
         refine e_op (v := .row false 2 0 m) (env' := _) rfl (by decide) (show _ = (0, 1) by kernel_rfl) (by decide) (fun _ _ h => h) (fun q h1 h2 => (match q, h2 with | 0, _ => row_cut (H := [VO.arr 25 4 [[.str b.name, .int .i64 b.kind, b.tx, b.sx]], VO.arr 26 1 [[x]], VO.arr 3 1 (wrows (ws ++ [-1])), pobj 3 1 (wrows ws), VO.arr 64 2 [[.int .i64 y.type, .str y.data]], VO.arr 3 1 [[.int .i64 t.parent]]]) (rows := wrows (ws ++ [-1])) (sz := 1) Tryz.underlying35 sz3 rfl (by omega) | 1, _ => row_cut (H := [VO.arr 25 4 [[.str b.name, .int .i64 b.kind, b.tx, b.sx]], VO.arr 26 1 [[x]], VO.arr 3 1 (wrows (ws ++ [-1])), VO.dead, VO.arr 64 2 [[.int .i64 y.type, .str y.data]], VO.arr 3 1 [[.int .i64 t.parent]], VO.arr 3 1 ((wrows ws).take m ++ [[AV.int .i64 (i : Int)]])]) (rows := wrows (ws ++ [-1])) (sz := 1) Tryz.underlying35 sz3 rfl (by omega) | q + 2, h2 => absurd h2 (by omega))) rfl (w98 rfl ?_)
         iterate 2 refine e_op (env' := _) rfl (by decide) (show _ = (0, 1) by kernel_rfl) (by decide) (fun _ _ h => h) (fun q h1 h2 => rfl) rfl (w98 rfl ?_)
         refine e_eff (H0 := [VO.arr 25 4 [[.str b.name, .int .i64 b.kind, b.tx, b.sx]], VO.arr 26 1 [[x]], VO.arr 3 1 (wrows (ws ++ [-1])), VO.dead, VO.arr 64 2 [[.int .i64 y.type, .str y.data]], VO.arr 3 1 [[.int .i64 t.parent]], VO.arr 3 1 ((wrows ws).take m ++ [[AV.int .i64 (i : Int)]])]) (H1 := [VO.arr 25 4 [[.str b.name, .int .i64 b.kind, b.tx, b.sx]], VO.arr 26 1 [[x]], VO.dead, VO.dead, VO.arr 64 2 [[.int .i64 y.type, .str y.data]], VO.arr 3 1 [[.int .i64 t.parent]], VO.arr 3 1 ((wrows ws).take m ++ [[AV.int .i64 (i : Int)]]), VO.arr 3 1 ((wrows (ws ++ [-1])).take m ++ [[AV.int .i64 (i : Int)], [AV.int .i64 (-1)]])]) (v := .row false 7 0 (m + 2)) (env' := _) rfl rfl (show _ = (1, 2) by kernel_rfl) rfl rfl (fun _ _ h => h) (row_app (H := [VO.arr 25 4 [[.str b.name, .int .i64 b.kind, b.tx, b.sx]], VO.arr 26 1 [[x]], VO.arr 3 1 (wrows (ws ++ [-1])), VO.dead, VO.arr 64 2 [[.int .i64 y.type, .str y.data]], VO.arr 3 1 [[.int .i64 t.parent]], VO.arr 3 1 ((wrows ws).take m ++ [[AV.int .i64 (i : Int)]])]) (L := 2) (rows := wrows (ws ++ [-1])) (news := [[.int .i64 (i : Int)], [.int .i64 (-1)]]) (x := .list .tight [[.int .i64 (i : Int)], [.int .i64 (-1)]]) (sz := 1) rfl (by simp [wrows]; omega) el35 Tryz.underlying35 rfl zc3 by3 rfl rfl (by decide) (by decide) rfl rfl (by simp) rfl (by simp; have := hI.len; have := hx.len; have := hI.le; omega)) rfl (w98 rfl ?_)
         iterate 2 refine e_op (env' := _) rfl (by decide) (show _ = (2, 2) by kernel_rfl) (by decide) (fun _ _ h => h) (fun q h1 h2 => rfl) rfl (w98 rfl ?_)
         refine e_endB rfl ?_
         refine n_then (wr ?_)
         iterate 2 refine wN rfl rfl rfl (v98 rfl ?_)
         refine we rfl ?_
         refine hY0 ⟨(i + 1, ws.take m ++ [(i : Int)], false), hI.next hyy hs⟩ (by have := hI.le; simp only; omega) _ _ [0, 1, 7, 6] ?_ (by decide) (fun _ h => absurd h (by omega)) ⟨.inr ⟨_, rfl, ren_arr (base_renO hL hLs)⟩, .inr ⟨_, rfl, ren_arr (mapL_cons (mapL_cons hXL.ren0 mapL_nil) mapL_nil)⟩, .inr ⟨_, rfl, by show renO _ (.arr 3 1 (wrows (ws.take m ++ [(i : Int)] ++ [-1]))) = _; rw [hlr]; exact ren_arr (ren_rows (by rw [← hlr]; exact wrows_val))⟩, .inr ⟨_, rfl, by rw [hwr]; exact pobj_snoc (by rw [← hwr]; exact wrows_val)⟩, trivial⟩
         repeat' first | exact trivial | refine ⟨.inl rfl, ?_⟩ | refine ⟨.inr rfl, ?_⟩ | refine ⟨.inr (IsL.ren1 ‹_›), ?_⟩ | refine ⟨(.inr (base_ren hL hLs)), ?_⟩ | refine ⟨(.inr (by rw [hwr]; exact (pval_snoc rfl).trans (by rw [hwl]))), ?_⟩ | refine ⟨(.inr (by show Vi.ren1 _ (.row false 2 0 ((ws.take m ++ [(i : Int)]).length + 1)) = _; rw [hl2]; rfl)), ?_⟩ | refine ⟨(.inr ?_), ?_⟩ | fail
         all_goals first | (exact congrArg some (int_succ (by have := hx.len; omega)).symm)
      ·
       have htb : twinBad b f k y = false := by rw [twinBad, hg48]; rfl
       refine d98 rfl ?_
       iterate 9 refine dS (wanted_f 48 (by kernel_rfl) rfl) (d98 rfl ?_)
       iterate 9 refine dS (wanted_k 57 (by kernel_rfl) rfl) (d98 rfl ?_)
       iterate 15 refine dS (wanted_k 66 (by kernel_rfl) rfl) (d98 rfl ?_)
       refine dS (wanted_k 57 (by kernel_rfl) rfl) (d98 rfl ?_)
       refine dS (wanted_f 48 (by kernel_rfl) rfl) (d98 rfl ?_)
       refine dN rfl rfl rfl (d98 rfl ?_)
       refine d_end rfl ?_
       refine vc_false rfl ?_
       refine vc_skip (n_then ?_)
       refine w_regionW [[VO.arr 25 4 [[.str b.name, .int .i64 b.kind, b.tx, b.sx]], VO.arr 26 1 [[x]], VO.arr 3 1 (wrows (ws ++ [-1])), VO.dead, VO.arr 64 2 [[.int .i64 y.type, .str y.data]], VO.arr 3 1 [[.int .i64 t.parent]], VO.arr 3 1 ((wrows ws).take m ++ [[AV.int .i64 (i : Int)]])], [VO.arr 25 4 [[.str b.name, .int .i64 b.kind, b.tx, b.sx]], VO.arr 26 1 [[x]], VO.dead, VO.dead, VO.arr 64 2 [[.int .i64 y.type, .str y.data]], VO.arr 3 1 [[.int .i64 t.parent]], VO.arr 3 1 ((wrows ws).take m ++ [[AV.int .i64 (i : Int)]]), VO.arr 3 1 ((wrows (ws ++ [-1])).take m ++ [[AV.int .i64 (i : Int)], [AV.int .i64 (-1)]])]] (by kernel_rfl) ?_
       have hs : vstep b f i ws y = some (ws.take m ++ [(i : Int)]) := by rw [vstep, if_neg (by rw [hfit]; simp), if_neg hslot, hkD, if_neg (by rw [htb]; simp), hmN]
       have hwr : wrows (ws.take m ++ [(i : Int)]) = (wrows ws).take m ++ [[AV.int .i64 (i : Int)]] := by simp [wrows, List.map_take]
       have hwl : ((wrows ws).take m).length = m := by simp [wrows]; omega
       have hml : m ≤ (wrows ws).length := by simp [wrows]; omega
       have hlr : wrows (ws.take m ++ [(i : Int)] ++ [-1]) = (wrows (ws ++ [-1])).take m ++ [[AV.int .i64 (i : Int)], [AV.int .i64 (-1)]] := by rw [wrows, List.map_append, List.map_append, List.map_take, wrows, List.map_append, List.take_append_of_le_length (by simp; omega)]; simp
       have hl2 : (ws.take m ++ [(i : Int)]).length + 1 = m + 2 := by simp; omega
       iterate 2 refine e_op (env' := _) rfl (by decide) (show _ = (0, 0) by kernel_rfl) (by decide) (fun _ _ h => h) (fun q h1 h2 => rfl) rfl (w98 rfl ?_)
       refine e_op (v := pcut 3 (wrows ws) m) (env' := _) rfl (by decide) (show _ = (0, 0) by kernel_rfl) (by decide) (fun _ _ h => h) (fun q h1 h2 => (match q, h2 with | 0, _ => pcut_run (H := [VO.arr 25 4 [[.str b.name, .int .i64 b.kind, b.tx, b.sx]], VO.arr 26 1 [[x]], VO.arr 3 1 (wrows (ws ++ [-1])), pobj 3 1 (wrows ws), VO.arr 64 2 [[.int .i64 y.type, .str y.data]], VO.arr 3 1 [[.int .i64 t.parent]]]) (sz := 1) Tryz.underlying35 sz3 rfl hml | q + 1, h2 => absurd h2 (by omega))) rfl (w98 rfl ?_)
       iterate 2 refine e_op (env' := _) rfl (by decide) (show _ = (0, 0) by kernel_rfl) (by decide) (fun _ _ h => h) (fun q h1 h2 => rfl) rfl (w98 rfl ?_)
       refine e_eff (H0 := [VO.arr 25 4 [[.str b.name, .int .i64 b.kind, b.tx, b.sx]], VO.arr 26 1 [[x]], VO.arr 3 1 (wrows (ws ++ [-1])), pobj 3 1 (wrows ws), VO.arr 64 2 [[.int .i64 y.type, .str y.data]], VO.arr 3 1 [[.int .i64 t.parent]]]) (H1 := [VO.arr 25 4 [[.str b.name, .int .i64 b.kind, b.tx, b.sx]], VO.arr 26 1 [[x]], VO.arr 3 1 (wrows (ws ++ [-1])), VO.dead, VO.arr 64 2 [[.int .i64 y.type, .str y.data]], VO.arr 3 1 [[.int .i64 t.parent]], VO.arr 3 1 ((wrows ws).take m ++ [[AV.int .i64 (i : Int)]])]) (v := .row false 6 0 (m + 1)) (env' := _) rfl rfl (show _ = (0, 1) by kernel_rfl) rfl rfl (fun _ _ h => h) (acc_cut (H := [VO.arr 25 4 [[.str b.name, .int .i64 b.kind, b.tx, b.sx]], VO.arr 26 1 [[x]], VO.arr 3 1 (wrows (ws ++ [-1])), pobj 3 1 (wrows ws), VO.arr 64 2 [[.int .i64 y.type, .str y.data]], VO.arr 3 1 [[.int .i64 t.parent]]]) (L := 3) (rows := wrows ws) (news := [[.int .i64 (i : Int)]]) (x := .list .tight [[.int .i64 (i : Int)]]) (sz := 1) rfl hml el35 Tryz.underlying35 rfl zc3 by3 rfl rfl (by decide) (by decide) rfl rfl (by simp) rfl (by simp; have := hI.len; have := hx.len; have := hI.le; omega)) rfl (w98 rfl ?_)
       iterate 2 refine e_op (env' := _) rfl (by decide) (show _ = (0, 1) by kernel_rfl) (by decide) (fun _ _ h => h) (fun q h1 h2 => rfl) rfl (w98 rfl ?_)
       refine e_op (v := .row false 2 0 m) (env' := _) rfl (by decide) (show _ = (0, 1) by kernel_rfl) (by decide) (fun _ _ h => h) (fun q h1 h2 => (match q, h2 with | 0, _ => row_cut (H := [VO.arr 25 4 [[.str b.name, .int .i64 b.kind, b.tx, b.sx]], VO.arr 26 1 [[x]], VO.arr 3 1 (wrows (ws ++ [-1])), pobj 3 1 (wrows ws), VO.arr 64 2 [[.int .i64 y.type, .str y.data]], VO.arr 3 1 [[.int .i64 t.parent]]]) (rows := wrows (ws ++ [-1])) (sz := 1) Tryz.underlying35 sz3 rfl (by omega) | 1, _ => row_cut (H := [VO.arr 25 4 [[.str b.name, .int .i64 b.kind, b.tx, b.sx]], VO.arr 26 1 [[x]], VO.arr 3 1 (wrows (ws ++ [-1])), VO.dead, VO.arr 64 2 [[.int .i64 y.type, .str y.data]], VO.arr 3 1 [[.int .i64 t.parent]], VO.arr 3 1 ((wrows ws).take m ++ [[AV.int .i64 (i : Int)]])]) (rows := wrows (ws ++ [-1])) (sz := 1) Tryz.underlying35 sz3 rfl (by omega) | q + 2, h2 => absurd h2 (by omega))) rfl (w98 rfl ?_)
       iterate 2 refine e_op (env' := _) rfl (by decide) (show _ = (0, 1) by kernel_rfl) (by decide) (fun _ _ h => h) (fun q h1 h2 => rfl) rfl (w98 rfl ?_)
       refine e_eff (H0 := [VO.arr 25 4 [[.str b.name, .int .i64 b.kind, b.tx, b.sx]], VO.arr 26 1 [[x]], VO.arr 3 1 (wrows (ws ++ [-1])), VO.dead, VO.arr 64 2 [[.int .i64 y.type, .str y.data]], VO.arr 3 1 [[.int .i64 t.parent]], VO.arr 3 1 ((wrows ws).take m ++ [[AV.int .i64 (i : Int)]])]) (H1 := [VO.arr 25 4 [[.str b.name, .int .i64 b.kind, b.tx, b.sx]], VO.arr 26 1 [[x]], VO.dead, VO.dead, VO.arr 64 2 [[.int .i64 y.type, .str y.data]], VO.arr 3 1 [[.int .i64 t.parent]], VO.arr 3 1 ((wrows ws).take m ++ [[AV.int .i64 (i : Int)]]), VO.arr 3 1 ((wrows (ws ++ [-1])).take m ++ [[AV.int .i64 (i : Int)], [AV.int .i64 (-1)]])]) (v := .row false 7 0 (m + 2)) (env' := _) rfl rfl (show _ = (1, 2) by kernel_rfl) rfl rfl (fun _ _ h => h) (row_app (H := [VO.arr 25 4 [[.str b.name, .int .i64 b.kind, b.tx, b.sx]], VO.arr 26 1 [[x]], VO.arr 3 1 (wrows (ws ++ [-1])), VO.dead, VO.arr 64 2 [[.int .i64 y.type, .str y.data]], VO.arr 3 1 [[.int .i64 t.parent]], VO.arr 3 1 ((wrows ws).take m ++ [[AV.int .i64 (i : Int)]])]) (L := 2) (rows := wrows (ws ++ [-1])) (news := [[.int .i64 (i : Int)], [.int .i64 (-1)]]) (x := .list .tight [[.int .i64 (i : Int)], [.int .i64 (-1)]]) (sz := 1) rfl (by simp [wrows]; omega) el35 Tryz.underlying35 rfl zc3 by3 rfl rfl (by decide) (by decide) rfl rfl (by simp) rfl (by simp; have := hI.len; have := hx.len; have := hI.le; omega)) rfl (w98 rfl ?_)
       iterate 2 refine e_op (env' := _) rfl (by decide) (show _ = (2, 2) by kernel_rfl) (by decide) (fun _ _ h => h) (fun q h1 h2 => rfl) rfl (w98 rfl ?_)
       refine e_endB rfl ?_
       refine n_then (wr ?_)
       iterate 2 refine wN rfl rfl rfl (v98 rfl ?_)
       refine we rfl ?_
       refine hY0 ⟨(i + 1, ws.take m ++ [(i : Int)], false), hI.next hyy hs⟩ (by have := hI.le; simp only; omega) _ _ [0, 1, 7, 6] ?_ (by decide) (fun _ h => absurd h (by omega)) ⟨.inr ⟨_, rfl, ren_arr (base_renO hL hLs)⟩, .inr ⟨_, rfl, ren_arr (mapL_cons (mapL_cons hXL.ren0 mapL_nil) mapL_nil)⟩, .inr ⟨_, rfl, by show renO _ (.arr 3 1 (wrows (ws.take m ++ [(i : Int)] ++ [-1]))) = _; rw [hlr]; exact ren_arr (ren_rows (by rw [← hlr]; exact wrows_val))⟩, .inr ⟨_, rfl, by rw [hwr]; exact pobj_snoc (by rw [← hwr]; exact wrows_val)⟩, trivial⟩
       repeat' first | exact trivial | refine ⟨.inl rfl, ?_⟩ | refine ⟨.inr rfl, ?_⟩ | refine ⟨.inr (IsL.ren1 ‹_›), ?_⟩ | refine ⟨(.inr (base_ren hL hLs)), ?_⟩ | refine ⟨(.inr (by rw [hwr]; exact (pval_snoc rfl).trans (by rw [hwl]))), ?_⟩ | refine ⟨(.inr (by show Vi.ren1 _ (.row false 2 0 ((ws.take m ++ [(i : Int)]).length + 1)) = _; rw [hl2]; rfl)), ?_⟩ | refine ⟨(.inr ?_), ?_⟩ | fail
       all_goals first | (exact congrArg some (int_succ (by have := hx.len; omega)).symm)
    ·
     have hp0 : ¬ t.parent ≥ 0 := of_decide_eq_false hc35
     have hm : slotOf b f ws y.type = ((m0 : Nat) : Int) := by rw [slotOf, hpt, if_neg hp0, hmz]; rfl
     have hslot : ¬ (parentOf b.types y.type ≥ 0 ∧ slotOf b f ws y.type = 0) := fun h => hp0 (by rw [← hpt]; exact h.1)
     refine vc_skip (n_then (vs (vs (wr ?_))))
     have hsl := slot_le (b := b) (f := f) (ws := ws) (t := y.type)
     have hmN : (slotOf b f ws y.type).toNat = m0 := by omega
     obtain ⟨k, hk⟩ : ∃ k, (ws ++ [-1])[m0]? = some k := ⟨_, List.getElem?_eq_getElem (by simp; omega)⟩
     have hkD : (ws ++ [-1]).getD (slotOf b f ws y.type).toNat (-1) = k := by rw [hmN, List.getD, hk]; rfl
     have hkb : -1 ≤ k ∧ k < i := by
      rcases List.mem_append.1 (List.mem_of_getElem? hk) with h | h
      · have := hI.bound k h; omega
      · simp at h; omega
     have hrk : (wrows (ws ++ [-1]))[m0]? = some [.int .i64 k] := wrows_at hk
     iterate 2 refine wN rfl rfl rfl (v98 rfl ?_)
     refine wN (v := .ptr 2 m0 0) rfl (g_indexN (H := [VO.arr 25 4 [[.str b.name, .int .i64 b.kind, b.tx, b.sx]], VO.arr 26 1 [[x]], VO.arr 3 1 (wrows (ws ++ [-1])), pobj 3 1 (wrows ws), VO.arr 64 2 [[.int .i64 y.type, .str y.data]], VO.arr 3 1 [[.int .i64 t.parent]]]) (rows := wrows (ws ++ [-1])) el35 rfl (by omega) (by omega) rfl) rfl (v98 rfl ?_)
     refine wN (v := .int .i64 k) rfl (g_load (H := [VO.arr 25 4 [[.str b.name, .int .i64 b.kind, b.tx, b.sx]], VO.arr 26 1 [[x]], VO.arr 3 1 (wrows (ws ++ [-1])), pobj 3 1 (wrows ws), VO.arr 64 2 [[.int .i64 y.type, .str y.data]], VO.arr 3 1 [[.int .i64 t.parent]]]) (l := 2) rfl hrk rfl) rfl (v98 rfl ?_)
     refine wN rfl rfl rfl (v98 rfl ?_)
     refine we rfl (vs (w_regionD (by kernel_rfl) ?_))
     iterate 3 refine dN rfl rfl rfl (d98 rfl ?_)
     refine d_split 48 rfl (fun hg48 => ?_) (fun hg48 => ?_)
     ·
      have hk0 : 0 ≤ k := of_decide_eq_true hg48
      obtain ⟨z, hz⟩ : ∃ z, f[k.toNat]? = some z := ⟨_, List.getElem?_eq_getElem (by omega)⟩
      have hrz := hx.at hz
      refine d98 rfl ?_
      iterate 2 refine dN (wanted_t 48 (by kernel_rfl) rfl) rfl rfl (d98 rfl ?_)
      first | refine dN (v := .iptr _ [_, _]) (wanted_t 48 (by kernel_rfl) rfl) rfl rfl (d98 rfl ?_) | (refine y_index (wanted_t 48 (by kernel_rfl) rfl) rfl ‹_› rfl el26 (by omega) ‹_› rfl (fun bo => ?_); refine d98 rfl ?_)
      refine dN (v := .iptr _ [_, _]) (wanted_t 48 (by kernel_rfl) rfl) rfl rfl (d98 rfl ?_)
      refine dN (wanted_t 48 (by kernel_rfl) rfl) rfl rfl (d98 rfl ?_)
      refine dN (v := .ptr 4 0 0) (wanted_t 48 (by kernel_rfl) rfl) rfl rfl (d98 rfl ?_)
      iterate 3 refine dN (wanted_t 48 (by kernel_rfl) rfl) rfl rfl (d98 rfl ?_)
      refine d_split 57 rfl (fun hg57 => ?_) (fun hg57 => ?_)
      ·
       refine d98 rfl ?_
       iterate 9 refine dS (wanted_f 57 (by kernel_rfl) rfl) (d98 rfl ?_)
       iterate 15 refine dS (wanted_k 66 (by kernel_rfl) rfl) (d98 rfl ?_)
       refine dS (wanted_f 57 (by kernel_rfl) rfl) (d98 rfl ?_)
       refine dN (wanted_t 48 (by kernel_rfl) rfl) rfl rfl (d98 rfl ?_)
       refine dN rfl rfl rfl (d98 rfl ?_)
       refine d_end rfl ?_
       refine vc_true rfl ?_
       refine vs (wr ?_)
       refine wN rfl rfl rfl (v98 rfl ?_)
       refine we rfl (vc_ret (r_then (r_block (r_then (r_then (r_block (r_then (r_fn rfl ?_))))))))
       have htb : twinBad b f k y = true := by rw [twinBad, hz, ht]; simp only [hg57, hg48, Bool.true_or, Bool.and_self]
       have hs : vstep b f i ws y = none := by rw [vstep, if_neg (by rw [hfit]; simp), if_neg hslot, hkD, if_pos htb]
       show some (AV.bool false) = some (AV.bool (validP b f))
       rw [hI.bad hyy hs]
      ·
       refine d98 rfl ?_
       iterate 2 refine dN (wanted_t 57 (by kernel_rfl) rfl) rfl rfl (d98 rfl ?_)
       first | refine dN (v := .iptr _ [_, _]) (wanted_t 57 (by kernel_rfl) rfl) rfl rfl (d98 rfl ?_) | (refine y_index (wanted_t 57 (by kernel_rfl) rfl) rfl ‹_› rfl el26 (by omega) ‹_› rfl (fun bo => ?_); refine d98 rfl ?_)
       refine dN (v := .iptr _ [_, _]) (wanted_t 57 (by kernel_rfl) rfl) rfl rfl (d98 rfl ?_)
       refine dN (wanted_t 57 (by kernel_rfl) rfl) rfl rfl (d98 rfl ?_)
       refine dN (v := .ptr 4 0 0) (wanted_t 57 (by kernel_rfl) rfl) rfl rfl (d98 rfl ?_)
       iterate 3 refine dN (wanted_t 57 (by kernel_rfl) rfl) rfl rfl (d98 rfl ?_)
       refine d_split 66 rfl (fun hg66 => ?_) (fun hg66 => ?_)
       ·
        have hzt : z.type = y.type := by simpa using hg66
        refine d98 rfl ?_
        refine dN (v := .ptr 0 0 2) (wanted_t 66 (by kernel_rfl) rfl) rfl rfl (d98 rfl ?_)
        refine dN (wanted_t 66 (by kernel_rfl) rfl) rfl rfl (d98 rfl ?_)
        refine dN (v := .ptr 4 0 0) (wanted_t 66 (by kernel_rfl) rfl) rfl rfl (d98 rfl ?_)
        refine dN (wanted_t 66 (by kernel_rfl) rfl) rfl rfl (d98 rfl ?_)
        first | refine dN (v := .iptr _ [_, _, _, _, _, _, _, _]) (wanted_t 66 (by kernel_rfl) rfl) rfl rfl (d98 rfl ?_) | (refine y_index (wanted_t 66 (by kernel_rfl) rfl) rfl ‹_› rfl el22 (by omega) ‹_› rfl (fun bo => ?_); refine d98 rfl ?_)
        refine dN (v := .agg [_, _, _, _, _, _, _, _]) (wanted_t 66 (by kernel_rfl) rfl) rfl rfl (d98 rfl ?_)
        iterate 2 refine dN (wanted_t 66 (by kernel_rfl) rfl) rfl rfl (d98 rfl ?_)
        first | refine dN (v := .iptr _ [_, _]) (wanted_t 66 (by kernel_rfl) rfl) rfl rfl (d98 rfl ?_) | (refine y_index (wanted_t 66 (by kernel_rfl) rfl) rfl ‹_› rfl el26 (by omega) ‹_› rfl (fun bo => ?_); refine d98 rfl ?_)
        refine dN (v := .iptr _ [_]) (wanted_t 66 (by kernel_rfl) rfl) rfl rfl (d98 rfl ?_)
        refine dN (wanted_t 66 (by kernel_rfl) rfl) rfl rfl (d98 rfl ?_)
        refine dN (v := .ptr 4 0 1) (wanted_t 66 (by kernel_rfl) rfl) rfl rfl (d98 rfl ?_)
        refine dN (wanted_t 66 (by kernel_rfl) rfl) rfl rfl (d98 rfl ?_)
        refine d_callI (env' := _) (wanted_t 66 (by kernel_rfl) rfl) rfl rfl (by kernel_rfl) rfl (by repeat' first | exact IsL.lend ‹_› | exact IsL.lend0 ‹_› | refine mapL_cons ?_ ?_ | refine lend_agg ?_ | rfl) (zInOrder G t hti z.data y.data (hx.short z (List.mem_of_getElem? hz)) hys (key_in hok (by obtain ⟨t2, h1, h2, h3, h4, h5⟩ := fits_type (hI.fit _ z (by omega) hz); rw [hzt, ht] at h1; cases h1; exact h4)) (key_in hok hym)) rfl (d98 rfl ?_)
        refine dN (wanted_t 66 (by kernel_rfl) rfl) rfl rfl (d98 rfl ?_)
        refine dN (wanted_t 57 (by kernel_rfl) rfl) rfl rfl (d98 rfl ?_)
        refine dN (wanted_t 48 (by kernel_rfl) rfl) rfl rfl (d98 rfl ?_)
        refine dN rfl rfl rfl (d98 rfl ?_)
        refine d_end rfl ?_
        refine vc_cond rfl (fun hc84 => ?_) (fun hc84 => ?_)
        ·
         refine vs (wr ?_)
         refine wN rfl rfl rfl (v98 rfl ?_)
         refine we rfl (vc_ret (r_then (r_block (r_then (r_then (r_block (r_then (r_fn rfl ?_))))))))
         have htb : twinBad b f k y = true := by rw [twinBad, hz, ht]; simp only [hg57, hg66, hg48, hc84, Bool.and_self, Bool.or_true]
         have hs : vstep b f i ws y = none := by rw [vstep, if_neg (by rw [hfit]; simp), if_neg hslot, hkD, if_pos htb]
         show some (AV.bool false) = some (AV.bool (validP b f))
         rw [hI.bad hyy hs]
        ·
         have htb : twinBad b f k y = false := by rw [twinBad, hz, ht]; simp only [hg57, hg66, hg48, hc84, Bool.and_false, Bool.or_false, Bool.and_self, Bool.true_and, Bool.false_or]
         refine vc_skip (n_then ?_)
         refine w_regionW [[VO.arr 25 4 [[.str b.name, .int .i64 b.kind, b.tx, b.sx]], VO.arr 26 1 [[x]], VO.arr 3 1 (wrows (ws ++ [-1])), VO.dead, VO.arr 64 2 [[.int .i64 y.type, .str y.data]], VO.arr 3 1 [[.int .i64 t.parent]], VO.arr 3 1 ((wrows ws).take m0 ++ [[AV.int .i64 (i : Int)]])], [VO.arr 25 4 [[.str b.name, .int .i64 b.kind, b.tx, b.sx]], VO.arr 26 1 [[x]], VO.dead, VO.dead, VO.arr 64 2 [[.int .i64 y.type, .str y.data]], VO.arr 3 1 [[.int .i64 t.parent]], VO.arr 3 1 ((wrows ws).take m0 ++ [[AV.int .i64 (i : Int)]]), VO.arr 3 1 ((wrows (ws ++ [-1])).take m0 ++ [[AV.int .i64 (i : Int)], [AV.int .i64 (-1)]])]] (by kernel_rfl) ?_
         have hs : vstep b f i ws y = some (ws.take m0 ++ [(i : Int)]) := by rw [vstep, if_neg (by rw [hfit]; simp), if_neg hslot, hkD, if_neg (by rw [htb]; simp), hmN]
         have hwr : wrows (ws.take m0 ++ [(i : Int)]) = (wrows ws).take m0 ++ [[AV.int .i64 (i : Int)]] := by simp [wrows, List.map_take]
         have hwl : ((wrows ws).take m0).length = m0 := by simp [wrows]; omega
         have hml : m0 ≤ (wrows ws).length := by simp [wrows]; omega
         have hlr : wrows (ws.take m0 ++ [(i : Int)] ++ [-1]) = (wrows (ws ++ [-1])).take m0 ++ [[AV.int .i64 (i : Int)], [AV.int .i64 (-1)]] := by rw [wrows, List.map_append, List.map_append, List.map_take, wrows, List.map_append, List.take_append_of_le_length (by simp; omega)]; simp
         have hl2 : (ws.take m0 ++ [(i : Int)]).length + 1 = m0 + 2 := by simp; omega
         iterate 2 refine e_op (env' := _) rfl (by decide) (show _ = (0, 0) by kernel_rfl) (by decide) (fun _ _ h => h) (fun q h1 h2 => rfl) rfl (w98 rfl ?_)
         refine e_op (v := pcut 3 (wrows ws) m0) (env' := _) rfl (by decide) (show _ = (0, 0) by kernel_rfl) (by decide) (fun _ _ h => h) (fun q h1 h2 => (match q, h2 with | 0, _ => pcut_run (H := [VO.arr 25 4 [[.str b.name, .int .i64 b.kind, b.tx, b.sx]], VO.arr 26 1 [[x]], VO.arr 3 1 (wrows (ws ++ [-1])), pobj 3 1 (wrows ws), VO.arr 64 2 [[.int .i64 y.type, .str y.data]], VO.arr 3 1 [[.int .i64 t.parent]]]) (sz := 1) Tryz.underlying35 sz3 rfl hml | q + 1, h2 => absurd h2 (by omega))) rfl (w98 rfl ?_)
         iterate 2 refine e_op (env' := _) rfl (by decide) (show _ = (0, 0) by kernel_rfl) (by decide) (fun _ _ h => h) (fun q h1 h2 => rfl) rfl (w98 rfl ?_)
         refine e_eff (H0 := [VO.arr 25 4 [[.str b.name, .int .i64 b.kind, b.tx, b.sx]], VO.arr 26 1 [[x]], VO.arr 3 1 (wrows (ws ++ [-1])), pobj 3 1 (wrows ws), VO.arr 64 2 [[.int .i64 y.type, .str y.data]], VO.arr 3 1 [[.int .i64 t.parent]]]) (H1 := [VO.arr 25 4 [[.str b.name, .int .i64 b.kind, b.tx, b.sx]], VO.arr 26 1 [[x]], VO.arr 3 1 (wrows (ws ++ [-1])), VO.dead, VO.arr 64 2 [[.int .i64 y.type, .str y.data]], VO.arr 3 1 [[.int .i64 t.parent]], VO.arr 3 1 ((wrows ws).take m0 ++ [[AV.int .i64 (i : Int)]])]) (v := .row false 6 0 (m0 + 1)) (env' := _) rfl rfl (show _ = (0, 1) by kernel_rfl) rfl rfl (fun _ _ h => h) (acc_cut (H := [VO.arr 25 4 [[.str b.name, .int .i64 b.kind, b.tx, b.sx]], VO.arr 26 1 [[x]], VO.arr 3 1 (wrows (ws ++ [-1])), pobj 3 1 (wrows ws), VO.arr 64 2 [[.int .i64 y.type, .str y.data]], VO.arr 3 1 [[.int .i64 t.parent]]]) (L := 3) (rows := wrows ws) (news := [[.int .i64 (i : Int)]]) (x := .list .tight [[.int .i64 (i : Int)]]) (sz := 1) rfl hml el35 Tryz.underlying35 rfl zc3 by3 rfl rfl (by decide) (by decide) rfl rfl (by simp) rfl (by simp; have := hI.len; have := hx.len; have := hI.le; omega)) rfl (w98 rfl ?_)
         iterate 2 refine e_op (env' := _) rfl (by decide) (show _ = (0, 1) by kernel_rfl) (by decide) (fun _ _ h => h) (fun q h1 h2 => rfl) rfl (w98 rfl ?_)
         refine e_op (v := .row false 2 0 m0) (env' := _) rfl (by decide) (show _ = (0, 1) by kernel_rfl) (by decide) (fun _ _ h => h) (fun q h1 h2 => (match q, h2 with | 0, _ => row_cut (H := [VO.arr 25 4 [[.str b.name, .int .i64 b.kind, b.tx, b.sx]], VO.arr 26 1 [[x]], VO.arr 3 1 (wrows (ws ++ [-1])), pobj 3 1 (wrows ws), VO.arr 64 2 [[.int .i64 y.type, .str y.data]], VO.arr 3 1 [[.int .i64 t.parent]]]) (rows := wrows (ws ++ [-1])) (sz := 1) Tryz.underlying35 sz3 rfl (by omega) | 1, _ => row_cut (H := [VO.arr 25 4 [[.str b.name, .int .i64 b.kind, b.tx, b.sx]], VO.arr 26 1 [[x]], VO.arr 3 1 (wrows (ws ++ [-1])), VO.dead, VO.arr 64 2 [[.int .i64 y.type, .str y.data]], VO.arr 3 1 [[.int .i64 t.parent]], VO.arr 3 1 ((wrows ws).take m0 ++ [[AV.int .i64 (i : Int)]])]) (rows := wrows (ws ++ [-1])) (sz := 1) Tryz.underlying35 sz3 rfl (by omega) | q + 2, h2 => absurd h2 (by omega))) rfl (w98 rfl ?_)
         iterate 2 refine e_op (env' := _) rfl (by decide) (show _ = (0, 1) by kernel_rfl) (by decide) (fun _ _ h => h) (fun q h1 h2 => rfl) rfl (w98 rfl ?_)
         refine e_eff (H0 := [VO.arr 25 4 [[.str b.name, .int .i64 b.kind, b.tx, b.sx]], VO.arr 26 1 [[x]], VO.arr 3 1 (wrows (ws ++ [-1])), VO.dead, VO.arr 64 2 [[.int .i64 y.type, .str y.data]], VO.arr 3 1 [[.int .i64 t.parent]], VO.arr 3 1 ((wrows ws).take m0 ++ [[AV.int .i64 (i : Int)]])]) (H1 := [VO.arr 25 4 [[.str b.name, .int .i64 b.kind, b.tx, b.sx]], VO.arr 26 1 [[x]], VO.dead, VO.dead, VO.arr 64 2 [[.int .i64 y.type, .str y.data]], VO.arr 3 1 [[.int .i64 t.parent]], VO.arr 3 1 ((wrows ws).take m0 ++ [[AV.int .i64 (i : Int)]]), VO.arr 3 1 ((wrows (ws ++ [-1])).take m0 ++ [[AV.int .i64 (i : Int)], [AV.int .i64 (-1)]])]) (v := .row false 7 0 (m0 + 2)) (env' := _) rfl rfl (show _ = (1, 2) by kernel_rfl) rfl rfl (fun _ _ h => h) (row_app (H := [VO.arr 25 4 [[.str b.name, .int .i64 b.kind, b.tx, b.sx]], VO.arr 26 1 [[x]], VO.arr 3 1 (wrows (ws ++ [-1])), VO.dead, VO.arr 64 2 [[.int .i64 y.type, .str y.data]], VO.arr 3 1 [[.int .i64 t.parent]], VO.arr 3 1 ((wrows ws).take m0 ++ [[AV.int .i64 (i : Int)]])]) (L := 2) (rows := wrows (ws ++ [-1])) (news := [[.int .i64 (i : Int)], [.int .i64 (-1)]]) (x := .list .tight [[.int .i64 (i : Int)], [.int .i64 (-1)]]) (sz := 1) rfl (by simp [wrows]; omega) el35 Tryz.underlying35 rfl zc3 by3 rfl rfl (by decide) (by decide) rfl rfl (by simp) rfl (by simp; have := hI.len; have := hx.len; have := hI.le; omega)) rfl (w98 rfl ?_)
         iterate 2 refine e_op (env' := _) rfl (by decide) (show _ = (2, 2) by kernel_rfl) (by decide) (fun _ _ h => h) (fun q h1 h2 => rfl) rfl (w98 rfl ?_)
         refine e_endB rfl ?_
         refine n_then (wr ?_)
         iterate 2 refine wN rfl rfl rfl (v98 rfl ?_)
         refine we rfl ?_
         refine hY0 ⟨(i + 1, ws.take m0 ++ [(i : Int)], false), hI.next hyy hs⟩ (by have := hI.le; simp only; omega) _ _ [0, 1, 7, 6] ?_ (by decide) (fun _ h => absurd h (by omega)) ⟨.inr ⟨_, rfl, ren_arr (base_renO hL hLs)⟩, .inr ⟨_, rfl, ren_arr (mapL_cons (mapL_cons hXL.ren0 mapL_nil) mapL_nil)⟩, .inr ⟨_, rfl, by show renO _ (.arr 3 1 (wrows (ws.take m0 ++ [(i : Int)] ++ [-1]))) = _; rw [hlr]; exact ren_arr (ren_rows (by rw [← hlr]; exact wrows_val))⟩, .inr ⟨_, rfl, by rw [hwr]; exact pobj_snoc (by rw [← hwr]; exact wrows_val)⟩, trivial⟩
         repeat' first | exact trivial | refine ⟨.inl rfl, ?_⟩ | refine ⟨.inr rfl, ?_⟩ | refine ⟨.inr (IsL.ren1 ‹_›), ?_⟩ | refine ⟨(.inr (base_ren hL hLs)), ?_⟩ | refine ⟨(.inr (by rw [hwr]; exact (pval_snoc rfl).trans (by rw [hwl]))), ?_⟩ | refine ⟨(.inr (by show Vi.ren1 _ (.row false 2 0 ((ws.take m0 ++ [(i : Int)]).length + 1)) = _; rw [hl2]; rfl)), ?_⟩ | refine ⟨(.inr ?_), ?_⟩ | fail
         all_goals first | (exact congrArg some (int_succ (by have := hx.len; omega)).symm)
       ·
        have htb : twinBad b f k y = false := by rw [twinBad, hz, ht]; simp only [hg57, hg66, Bool.false_and, Bool.or_false, Bool.and_false]
        refine d98 rfl ?_
        iterate 15 refine dS (wanted_f 66 (by kernel_rfl) rfl) (d98 rfl ?_)
        refine dN (wanted_t 57 (by kernel_rfl) rfl) rfl rfl (d98 rfl ?_)
        refine dN (wanted_t 48 (by kernel_rfl) rfl) rfl rfl (d98 rfl ?_)
        refine dN rfl rfl rfl (d98 rfl ?_)
        refine d_end rfl ?_
        refine vc_false rfl ?_
        refine vc_skip (n_then ?_)
        refine w_regionW [[VO.arr 25 4 [[.str b.name, .int .i64 b.kind, b.tx, b.sx]], VO.arr 26 1 [[x]], VO.arr 3 1 (wrows (ws ++ [-1])), VO.dead, VO.arr 64 2 [[.int .i64 y.type, .str y.data]], VO.arr 3 1 [[.int .i64 t.parent]], VO.arr 3 1 ((wrows ws).take m0 ++ [[AV.int .i64 (i : Int)]])], [VO.arr 25 4 [[.str b.name, .int .i64 b.kind, b.tx, b.sx]], VO.arr 26 1 [[x]], VO.dead, VO.dead, VO.arr 64 2 [[.int .i64 y.type, .str y.data]], VO.arr 3 1 [[.int .i64 t.parent]], VO.arr 3 1 ((wrows ws).take m0 ++ [[AV.int .i64 (i : Int)]]), VO.arr 3 1 ((wrows (ws ++ [-1])).take m0 ++ [[AV.int .i64 (i : Int)], [AV.int .i64 (-1)]])]] (by kernel_rfl) ?_
        have hs : vstep b f i ws y = some (ws.take m0 ++ [(i : Int)]) := by rw [vstep, if_neg (by rw [hfit]; simp), if_neg hslot, hkD, if_neg (by rw [htb]; simp), hmN]
        have hwr : wrows (ws.take m0 ++ [(i : Int)]) = (wrows ws).take m0 ++ [[AV.int .i64 (i : Int)]] := by simp [wrows, List.map_take]
        have hwl : ((wrows ws).take m0).length = m0 := by simp [wrows]; omega
        have hml : m0 ≤ (wrows ws).length := by simp [wrows]; omega
        have hlr : wrows (ws.take m0 ++ [(i : Int)] ++ [-1]) = (wrows (ws ++ [-1])).take m0 ++ [[AV.int .i64 (i : Int)], [AV.int .i64 (-1)]] := by rw [wrows, List.map_append, List.map_append, List.map_take, wrows, List.map_append, List.take_append_of_le_length (by simp; omega)]; simp
        have hl2 : (ws.take m0 ++ [(i : Int)]).length + 1 = m0 + 2 := by simp; omega
        iterate 2 refine e_op (env' := _) rfl (by decide) (show _ = (0, 0) by kernel_rfl) (by decide) (fun _ _ h => h) (fun q h1 h2 => rfl) rfl (w98 rfl ?_)
        refine e_op (v := pcut 3 (wrows ws) m0) (env' := _) rfl (by decide) (show _ = (0, 0) by kernel_rfl) (by decide) (fun _ _ h => h) (fun q h1 h2 => (match q, h2 with | 0, _ => pcut_run (H := [VO.arr 25 4 [[.str b.name, .int .i64 b.kind, b.tx, b.sx]], VO.arr 26 1 [[x]], VO.arr 3 1 (wrows (ws ++ [-1])), pobj 3 1 (wrows ws), VO.arr 64 2 [[.int .i64 y.type, .str y.data]], VO.arr 3 1 [[.int .i64 t.parent]]]) (sz := 1) Tryz.underlying35 sz3 rfl hml | q + 1, h2 => absurd h2 (by omega))) rfl (w98 rfl ?_)
        iterate 2 refine e_op (env' := _) rfl (by decide) (show _ = (0, 0) by kernel_rfl) (by decide) (fun _ _ h => h) (fun q h1 h2 => rfl) rfl (w98 rfl ?_)
        refine e_eff (H0 := [VO.arr 25 4 [[.str b.name, .int .i64 b.kind, b.tx, b.sx]], VO.arr 26 1 [[x]], VO.arr 3 1 (wrows (ws ++ [-1])), pobj 3 1 (wrows ws), VO.arr 64 2 [[.int .i64 y.type, .str y.data]], VO.arr 3 1 [[.int .i64 t.parent]]]) (H1 := [VO.arr 25 4 [[.str b.name, .int .i64 b.kind, b.tx, b.sx]], VO.arr 26 1 [[x]], VO.arr 3 1 (wrows (ws ++ [-1])), VO.dead, VO.arr 64 2 [[.int .i64 y.type, .str y.data]], VO.arr 3 1 [[.int .i64 t.parent]], VO.arr 3 1 ((wrows ws).take m0 ++ [[AV.int .i64 (i : Int)]])]) (v := .row false 6 0 (m0 + 1)) (env' := _) rfl rfl (show _ = (0, 1) by kernel_rfl) rfl rfl (fun _ _ h => h) (acc_cut (H := [VO.arr 25 4 [[.str b.name, .int .i64 b.kind, b.tx, b.sx]], VO.arr 26 1 [[x]], VO.arr 3 1 (wrows (ws ++ [-1])), pobj 3 1 (wrows ws), VO.arr 64 2 [[.int .i64 y.type, .str y.data]], VO.arr 3 1 [[.int .i64 t.parent]]]) (L := 3) (rows := wrows ws) (news := [[.int .i64 (i : Int)]]) (x := .list .tight [[.int .i64 (i : Int)]]) (sz := 1) rfl hml el35 Tryz.underlying35 rfl zc3 by3 rfl rfl (by decide) (by decide) rfl rfl (by simp) rfl (by simp; have := hI.len; have := hx.len; have := hI.le; omega)) rfl (w98 rfl ?_)
        iterate 2 refine e_op (env' := _) rfl (by decide) (show _ = (0, 1) by kernel_rfl) (by decide) (fun _ _ h => h) (fun q h1 h2 => rfl) rfl (w98 rfl ?_)
        refine e_op (v := .row false 2 0 m0) (env' := _) rfl (by decide) (show _ = (0, 1) by kernel_rfl) (by decide) (fun _ _ h => h) (fun q h1 h2 => (match q, h2 with | 0, _ => row_cut (H := [VO.arr 25 4 [[.str b.name, .int .i64 b.kind, b.tx, b.sx]], VO.arr 26 1 [[x]], VO.arr 3 1 (wrows (ws ++ [-1])), pobj 3 1 (wrows ws), VO.arr 64 2 [[.int .i64 y.type, .str y.data]], VO.arr 3 1 [[.int .i64 t.parent]]]) (rows := wrows (ws ++ [-1])) (sz := 1) Tryz.underlying35 sz3 rfl (by omega) | 1, _ => row_cut (H := [VO.arr 25 4 [[.str b.name, .int .i64 b.kind, b.tx, b.sx]], VO.arr 26 1 [[x]], VO.arr 3 1 (wrows (ws ++ [-1])), VO.dead, VO.arr 64 2 [[.int .i64 y.type, .str y.data]], VO.arr 3 1 [[.int .i64 t.parent]], VO.arr 3 1 ((wrows ws).take m0 ++ [[AV.int .i64 (i : Int)]])]) (rows := wrows (ws ++ [-1])) (sz := 1) Tryz.underlying35 sz3 rfl (by omega) | q + 2, h2 => absurd h2 (by omega))) rfl (w98 rfl ?_)
        iterate 2 refine e_op (env' := _) rfl (by decide) (show _ = (0, 1) by kernel_rfl) (by decide) (fun _ _ h => h) (fun q h1 h2 => rfl) rfl (w98 rfl ?_)
        refine e_eff (H0 := [VO.arr 25 4 [[.str b.name, .int .i64 b.kind, b.tx, b.sx]], VO.arr 26 1 [[x]], VO.arr 3 1 (wrows (ws ++ [-1])), VO.dead, VO.arr 64 2 [[.int .i64 y.type, .str y.data]], VO.arr 3 1 [[.int .i64 t.parent]], VO.arr 3 1 ((wrows ws).take m0 ++ [[AV.int .i64 (i : Int)]])]) (H1 := [VO.arr 25 4 [[.str b.name, .int .i64 b.kind, b.tx, b.sx]], VO.arr 26 1 [[x]], VO.dead, VO.dead, VO.arr 64 2 [[.int .i64 y.type, .str y.data]], VO.arr 3 1 [[.int .i64 t.parent]], VO.arr 3 1 ((wrows ws).take m0 ++ [[AV.int .i64 (i : Int)]]), VO.arr 3 1 ((wrows (ws ++ [-1])).take m0 ++ [[AV.int .i64 (i : Int)], [AV.int .i64 (-1)]])]) (v := .row false 7 0 (m0 + 2)) (env' := _) rfl rfl (show _ = (1, 2) by kernel_rfl) rfl rfl (fun _ _ h => h) (row_app (H := [VO.arr 25 4 [[.str b.name, .int .i64 b.kind, b.tx, b.sx]], VO.arr 26 1 [[x]], VO.arr 3 1 (wrows (ws ++ [-1])), VO.dead, VO.arr 64 2 [[.int .i64 y.type, .str y.data]], VO.arr 3 1 [[.int .i64 t.parent]], VO.arr 3 1 ((wrows ws).take m0 ++ [[AV.int .i64 (i : Int)]])]) (L := 2) (rows := wrows (ws ++ [-1])) (news := [[.int .i64 (i : Int)], [.int .i64 (-1)]]) (x := .list .tight [[.int .i64 (i : Int)], [.int .i64 (-1)]]) (sz := 1) rfl (by simp [wrows]; omega) el35 Tryz.underlying35 rfl zc3 by3 rfl rfl (by decide) (by decide) rfl rfl (by simp) rfl (by simp; have := hI.len; have := hx.len; have := hI.le; omega)) rfl (w98 rfl ?_)
        iterate 2 refine e_op (env' := _) rfl (by decide) (show _ = (2, 2) by kernel_rfl) (by decide) (fun _ _ h => h) (fun q h1 h2 => rfl) rfl (w98 rfl ?_)
        refine e_endB rfl ?_
        refine n_then (wr ?_)
        iterate 2 refine wN rfl rfl rfl (v98 rfl ?_)
        refine we rfl ?_
        refine hY0 ⟨(i + 1, ws.take m0 ++ [(i : Int)], false), hI.next hyy hs⟩ (by have := hI.le; simp only; omega) _ _ [0, 1, 7, 6] ?_ (by decide) (fun _ h => absurd h (by omega)) ⟨.inr ⟨_, rfl, ren_arr (base_renO hL hLs)⟩, .inr ⟨_, rfl, ren_arr (mapL_cons (mapL_cons hXL.ren0 mapL_nil) mapL_nil)⟩, .inr ⟨_, rfl, by show renO _ (.arr 3 1 (wrows (ws.take m0 ++ [(i : Int)] ++ [-1]))) = _; rw [hlr]; exact ren_arr (ren_rows (by rw [← hlr]; exact wrows_val))⟩, .inr ⟨_, rfl, by rw [hwr]; exact pobj_snoc (by rw [← hwr]; exact wrows_val)⟩, trivial⟩
        repeat' first | exact trivial | refine ⟨.inl rfl, ?_⟩ | refine ⟨.inr rfl, ?_⟩ | refine ⟨.inr (IsL.ren1 ‹_›), ?_⟩ | refine ⟨(.inr (base_ren hL hLs)), ?_⟩ | refine ⟨(.inr (by rw [hwr]; exact (pval_snoc rfl).trans (by rw [hwl]))), ?_⟩ | refine ⟨(.inr (by show Vi.ren1 _ (.row false 2 0 ((ws.take m0 ++ [(i : Int)]).length + 1)) = _; rw [hl2]; rfl)), ?_⟩ | refine ⟨(.inr ?_), ?_⟩ | fail
        all_goals first | (exact congrArg some (int_succ (by have := hx.len; omega)).symm)
     ·
      have htb : twinBad b f k y = false := by rw [twinBad, hg48]; rfl
      refine d98 rfl ?_
      iterate 9 refine dS (wanted_f 48 (by kernel_rfl) rfl) (d98 rfl ?_)
      iterate 9 refine dS (wanted_k 57 (by kernel_rfl) rfl) (d98 rfl ?_)
      iterate 15 refine dS (wanted_k 66 (by kernel_rfl) rfl) (d98 rfl ?_)
      refine dS (wanted_k 57 (by kernel_rfl) rfl) (d98 rfl ?_)
      refine dS (wanted_f 48 (by kernel_rfl) rfl) (d98 rfl ?_)
      refine dN rfl rfl rfl (d98 rfl ?_)
      refine d_end rfl ?_
      refine vc_false rfl ?_
      refine vc_skip (n_then ?_)
      refine w_regionW [[VO.arr 25 4 [[.str b.name, .int .i64 b.kind, b.tx, b.sx]], VO.arr 26 1 [[x]], VO.arr 3 1 (wrows (ws ++ [-1])), VO.dead, VO.arr 64 2 [[.int .i64 y.type, .str y.data]], VO.arr 3 1 [[.int .i64 t.parent]], VO.arr 3 1 ((wrows ws).take m0 ++ [[AV.int .i64 (i : Int)]])], [VO.arr 25 4 [[.str b.name, .int .i64 b.kind, b.tx, b.sx]], VO.arr 26 1 [[x]], VO.dead, VO.dead, VO.arr 64 2 [[.int .i64 y.type, .str y.data]], VO.arr 3 1 [[.int .i64 t.parent]], VO.arr 3 1 ((wrows ws).take m0 ++ [[AV.int .i64 (i : Int)]]), VO.arr 3 1 ((wrows (ws ++ [-1])).take m0 ++ [[AV.int .i64 (i : Int)], [AV.int .i64 (-1)]])]] (by kernel_rfl) ?_
      have hs : vstep b f i ws y = some (ws.take m0 ++ [(i : Int)]) := by rw [vstep, if_neg (by rw [hfit]; simp), if_neg hslot, hkD, if_neg (by rw [htb]; simp), hmN]
      have hwr : wrows (ws.take m0 ++ [(i : Int)]) = (wrows ws).take m0 ++ [[AV.int .i64 (i : Int)]] := by simp [wrows, List.map_take]
      have hwl : ((wrows ws).take m0).length = m0 := by simp [wrows]; omega
      have hml : m0 ≤ (wrows ws).length := by simp [wrows]; omega
      have hlr : wrows (ws.take m0 ++ [(i : Int)] ++ [-1]) = (wrows (ws ++ [-1])).take m0 ++ [[AV.int .i64 (i : Int)], [AV.int .i64 (-1)]] := by rw [wrows, List.map_append, List.map_append, List.map_take, wrows, List.map_append, List.take_append_of_le_length (by simp; omega)]; simp
      have hl2 : (ws.take m0 ++ [(i : Int)]).length + 1 = m0 + 2 := by simp; omega
      iterate 2 refine e_op (env' := _) rfl (by decide) (show _ = (0, 0) by kernel_rfl) (by decide) (fun _ _ h => h) (fun q h1 h2 => rfl) rfl (w98 rfl ?_)
      refine e_op (v := pcut 3 (wrows ws) m0) (env' := _) rfl (by decide) (show _ = (0, 0) by kernel_rfl) (by decide) (fun _ _ h => h) (fun q h1 h2 => (match q, h2 with | 0, _ => pcut_run (H := [VO.arr 25 4 [[.str b.name, .int .i64 b.kind, b.tx, b.sx]], VO.arr 26 1 [[x]], VO.arr 3 1 (wrows (ws ++ [-1])), pobj 3 1 (wrows ws), VO.arr 64 2 [[.int .i64 y.type, .str y.data]], VO.arr 3 1 [[.int .i64 t.parent]]]) (sz := 1) Tryz.underlying35 sz3 rfl hml | q + 1, h2 => absurd h2 (by omega))) rfl (w98 rfl ?_)
      iterate 2 refine e_op (env' := _) rfl (by decide) (show _ = (0, 0) by kernel_rfl) (by decide) (fun _ _ h => h) (fun q h1 h2 => rfl) rfl (w98 rfl ?_)
      refine e_eff (H0 := [VO.arr 25 4 [[.str b.name, .int .i64 b.kind, b.tx, b.sx]], VO.arr 26 1 [[x]], VO.arr 3 1 (wrows (ws ++ [-1])), pobj 3 1 (wrows ws), VO.arr 64 2 [[.int .i64 y.type, .str y.data]], VO.arr 3 1 [[.int .i64 t.parent]]]) (H1 := [VO.arr 25 4 [[.str b.name, .int .i64 b.kind, b.tx, b.sx]], VO.arr 26 1 [[x]], VO.arr 3 1 (wrows (ws ++ [-1])), VO.dead, VO.arr 64 2 [[.int .i64 y.type, .str y.data]], VO.arr 3 1 [[.int .i64 t.parent]], VO.arr 3 1 ((wrows ws).take m0 ++ [[AV.int .i64 (i : Int)]])]) (v := .row false 6 0 (m0 + 1)) (env' := _) rfl rfl (show _ = (0, 1) by kernel_rfl) rfl rfl (fun _ _ h => h) (acc_cut (H := [VO.arr 25 4 [[.str b.name, .int .i64 b.kind, b.tx, b.sx]], VO.arr 26 1 [[x]], VO.arr 3 1 (wrows (ws ++ [-1])), pobj 3 1 (wrows ws), VO.arr 64 2 [[.int .i64 y.type, .str y.data]], VO.arr 3 1 [[.int .i64 t.parent]]]) (L := 3) (rows := wrows ws) (news := [[.int .i64 (i : Int)]]) (x := .list .tight [[.int .i64 (i : Int)]]) (sz := 1) rfl hml el35 Tryz.underlying35 rfl zc3 by3 rfl rfl (by decide) (by decide) rfl rfl (by simp) rfl (by simp; have := hI.len; have := hx.len; have := hI.le; omega)) rfl (w98 rfl ?_)
      iterate 2 refine e_op (env' := _) rfl (by decide) (show _ = (0, 1) by kernel_rfl) (by decide) (fun _ _ h => h) (fun q h1 h2 => rfl) rfl (w98 rfl ?_)
      refine e_op (v := .row false 2 0 m0) (env' := _) rfl (by decide) (show _ = (0, 1) by kernel_rfl) (by decide) (fun _ _ h => h) (fun q h1 h2 => (match q, h2 with | 0, _ => row_cut (H := [VO.arr 25 4 [[.str b.name, .int .i64 b.kind, b.tx, b.sx]], VO.arr 26 1 [[x]], VO.arr 3 1 (wrows (ws ++ [-1])), pobj 3 1 (wrows ws), VO.arr 64 2 [[.int .i64 y.type, .str y.data]], VO.arr 3 1 [[.int .i64 t.parent]]]) (rows := wrows (ws ++ [-1])) (sz := 1) Tryz.underlying35 sz3 rfl (by omega) | 1, _ => row_cut (H := [VO.arr 25 4 [[.str b.name, .int .i64 b.kind, b.tx, b.sx]], VO.arr 26 1 [[x]], VO.arr 3 1 (wrows (ws ++ [-1])), VO.dead, VO.arr 64 2 [[.int .i64 y.type, .str y.data]], VO.arr 3 1 [[.int .i64 t.parent]], VO.arr 3 1 ((wrows ws).take m0 ++ [[AV.int .i64 (i : Int)]])]) (rows := wrows (ws ++ [-1])) (sz := 1) Tryz.underlying35 sz3 rfl (by omega) | q + 2, h2 => absurd h2 (by omega))) rfl (w98 rfl ?_)
      iterate 2 refine e_op (env' := _) rfl (by decide) (show _ = (0, 1) by kernel_rfl) (by decide) (fun _ _ h => h) (fun q h1 h2 => rfl) rfl (w98 rfl ?_)
      refine e_eff (H0 := [VO.arr 25 4 [[.str b.name, .int .i64 b.kind, b.tx, b.sx]], VO.arr 26 1 [[x]], VO.arr 3 1 (wrows (ws ++ [-1])), VO.dead, VO.arr 64 2 [[.int .i64 y.type, .str y.data]], VO.arr 3 1 [[.int .i64 t.parent]], VO.arr 3 1 ((wrows ws).take m0 ++ [[AV.int .i64 (i : Int)]])]) (H1 := [VO.arr 25 4 [[.str b.name, .int .i64 b.kind, b.tx, b.sx]], VO.arr 26 1 [[x]], VO.dead, VO.dead, VO.arr 64 2 [[.int .i64 y.type, .str y.data]], VO.arr 3 1 [[.int .i64 t.parent]], VO.arr 3 1 ((wrows ws).take m0 ++ [[AV.int .i64 (i : Int)]]), VO.arr 3 1 ((wrows (ws ++ [-1])).take m0 ++ [[AV.int .i64 (i : Int)], [AV.int .i64 (-1)]])]) (v := .row false 7 0 (m0 + 2)) (env' := _) rfl rfl (show _ = (1, 2) by kernel_rfl) rfl rfl (fun _ _ h => h) (row_app (H := [VO.arr 25 4 [[.str b.name, .int .i64 b.kind, b.tx, b.sx]], VO.arr 26 1 [[x]], VO.arr 3 1 (wrows (ws ++ [-1])), VO.dead, VO.arr 64 2 [[.int .i64 y.type, .str y.data]], VO.arr 3 1 [[.int .i64 t.parent]], VO.arr 3 1 ((wrows ws).take m0 ++ [[AV.int .i64 (i : Int)]])]) (L := 2) (rows := wrows (ws ++ [-1])) (news := [[.int .i64 (i : Int)], [.int .i64 (-1)]]) (x := .list .tight [[.int .i64 (i : Int)], [.int .i64 (-1)]]) (sz := 1) rfl (by simp [wrows]; omega) el35 Tryz.underlying35 rfl zc3 by3 rfl rfl (by decide) (by decide) rfl rfl (by simp) rfl (by simp; have := hI.len; have := hx.len; have := hI.le; omega)) rfl (w98 rfl ?_)
      iterate 2 refine e_op (env' := _) rfl (by decide) (show _ = (2, 2) by kernel_rfl) (by decide) (fun _ _ h => h) (fun q h1 h2 => rfl) rfl (w98 rfl ?_)
      refine e_endB rfl ?_
      refine n_then (wr ?_)
      iterate 2 refine wN rfl rfl rfl (v98 rfl ?_)
      refine we rfl ?_
      refine hY0 ⟨(i + 1, ws.take m0 ++ [(i : Int)], false), hI.next hyy hs⟩ (by have := hI.le; simp only; omega) _ _ [0, 1, 7, 6] ?_ (by decide) (fun _ h => absurd h (by omega)) ⟨.inr ⟨_, rfl, ren_arr (base_renO hL hLs)⟩, .inr ⟨_, rfl, ren_arr (mapL_cons (mapL_cons hXL.ren0 mapL_nil) mapL_nil)⟩, .inr ⟨_, rfl, by show renO _ (.arr 3 1 (wrows (ws.take m0 ++ [(i : Int)] ++ [-1]))) = _; rw [hlr]; exact ren_arr (ren_rows (by rw [← hlr]; exact wrows_val))⟩, .inr ⟨_, rfl, by rw [hwr]; exact pobj_snoc (by rw [← hwr]; exact wrows_val)⟩, trivial⟩
      repeat' first | exact trivial | refine ⟨.inl rfl, ?_⟩ | refine ⟨.inr rfl, ?_⟩ | refine ⟨.inr (IsL.ren1 ‹_›), ?_⟩ | refine ⟨(.inr (base_ren hL hLs)), ?_⟩ | refine ⟨(.inr (by rw [hwr]; exact (pval_snoc rfl).trans (by rw [hwl]))), ?_⟩ | refine ⟨(.inr (by show Vi.ren1 _ (.row false 2 0 ((ws.take m0 ++ [(i : Int)]).length + 1)) = _; rw [hl2]; rfl)), ?_⟩ | refine ⟨(.inr ?_), ?_⟩ | fail
      all_goals first | (exact congrArg some (int_succ (by have := hx.len; omega)).symm)
  ·
   have hge : ¬ i < f.length := by have := of_decide_eq_false hc19; omega
   refine vc_exit (x_then (x_then (x_same (n_then (vs (wr ?_))))))
   refine wN rfl rfl rfl (v98 rfl ?_)
   refine we rfl (vc_ret (r_fn rfl ?_))
   show some (AV.bool true) = some (AV.bool (validP b f))
   have hall : validFrom b f 0 [] f = true := by rw [hI.eq, List.drop_of_length_le (by omega)]; rfl
   rw [validP, decide_eq_true h200, hall]
   rfl
end Go.Vi
