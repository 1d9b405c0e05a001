/- Part of the proof of the tied card of CareTexts: validity of a base, depths. Conditions: none of its own. -/
import Derived.Test.YtenfndlbldffgaaGreatDoorCb
set_option autoImplicit false
set_option linter.unusedVariables false
set_option linter.unusedSimpArgs false
set_option maxRecDepth 100000
namespace Go.Vi
open Go Go.Vi Go.Proofs
attribute [local irreducible] vops vopsD vc
def refHead (b : PB) : Bool := !(!isName b.name || decide (b.kind < 1) || decide (b.kind > 4) || decide ((b.types.length : Int) < 1) || decide ((b.types.length : Int) > 8) || decide ((b.search.length : Int) > 3))
def refTBad (t : PT) : Bool := !isName t.name || decide (t.min < 1) || decide (t.min > t.size) || decide (t.size > 40) || !refFields t
def upBad (ts : List PT) (i : Nat) (t : PT) : Bool := decide (t.parent < 0) || decide (t.parent ≥ (i : Int)) || ((t.parent != ((i - 1 : Nat) : Int)) && !(way ts (parentOf ts ((i - 1 : Nat) : Int))).contains t.parent) || decide (((way ts (i : Int)).length : Int) > 5)
def refType (ts : List PT) (i : Nat) (t : PT) : Bool := !refTBad t && !twiceT (ts.take i) t.name && (if i = 0 then !rootBad t else !upBad ts i t)
def refTypeAt (ts : List PT) (i : Nat) : Bool := match ts[i]? with
 | some t => refType ts i t
 | none => false
def refSBad (ts : List PT) (s : PS) : Bool := (!isName s.name || decide (s.type < 0) || decide (s.type ≥ (ts.length : Int))) || fieldBad ts s || decide ((s.sparse.size : Int) > 1)
def refSearchAt (ts : List PT) (ss : List PS) (i : Nat) : Bool := match ss[i]? with
 | some s => !refSBad ts s && !twiceS (ss.take i) s.name
 | none => false
def refOk (b : PB) : Bool := refHead b && (List.range b.types.length).all (refTypeAt b.types) && (List.range b.search.length).all (refSearchAt b.types b.search)
theorem ref_noT {b : PB} {i : Nat} {t : PT} (ht : b.types[i]? = some t) (h : refType b.types i t = false) : refOk b = false := by
 have hlt : i < b.types.length := (List.getElem?_eq_some_iff.1 ht).1
 have : (List.range b.types.length).all (refTypeAt b.types) = false := by
  rw [List.all_eq_false]
  exact ⟨i, List.mem_range.2 hlt, by simp only [refTypeAt, ht, h]; simp⟩
 rw [refOk, this, Bool.and_false]
 rfl
theorem ref_noS {b : PB} {i : Nat} {s : PS} (hs : b.search[i]? = some s) (h : (!refSBad b.types s && !twiceS (b.search.take i) s.name) = false) : refOk b = false := by
 have hlt : i < b.search.length := (List.getElem?_eq_some_iff.1 hs).1
 have : (List.range b.search.length).all (refSearchAt b.types b.search) = false := by
  rw [List.all_eq_false]
  exact ⟨i, List.mem_range.2 hlt, by simp only [refSearchAt, hs, h]; simp⟩
 rw [refOk, this, Bool.and_false]
theorem all_upto {p : Nat → Bool} {i n : Nat} (h : ∀ j, j < i → p j = true) (hi : n ≤ i) : (List.range n).all p = true :=
 List.all_eq_true.2 fun j hj => h j (by have := List.mem_range.1 hj; omega)
theorem ups_of {ts : List PT} {n : Nat} (h : ∀ j, j < n → refTypeAt ts j = true) : Ups ts n := by
 intro j u hj hu
 have := h j hj
 simp only [refTypeAt, hu, refType, Bool.and_eq_true] at this
 obtain ⟨_, this⟩ := this
 by_cases h0 : j = 0
 · rw [if_pos h0] at this
   simp only [rootBad, Bool.not_eq_true', Bool.or_eq_false_iff, bne_eq_false_iff_eq] at this
   omega
 · rw [if_neg h0] at this
   simp only [upBad, Bool.not_eq_true', Bool.or_eq_false_iff, decide_eq_false_iff_not] at this
   omega
theorem ups_succ {ts : List PT} {n : Nat} {t : PT} (h : Ups ts n) (ht : ts[n]? = some t) (h1 : -1 ≤ t.parent) (h2 : t.parent < n) : Ups ts (n + 1) := by
 intro j u hj hu
 by_cases he : j = n
 · subst he; rw [ht] at hu; cases hu; exact ⟨h1, h2⟩
 · exact h j u (by omega) hu
theorem refFields_key {t : PT} (h : refFields t = true) (hk : 0 ≤ t.key) : t.key.toNat < t.fields.length := by
 simp only [refFields, Bool.and_eq_true, Bool.not_eq_true', Bool.or_eq_false_iff, decide_eq_false_iff_not] at h
 omega
theorem twiceT_yes {fs : List PT} {i k : Nat} {g : PT} {n : ByteArray} (hk : k < i) (hg : fs[k]? = some g) (h : seq g.name n = true) : twiceT (fs.take i) n = true := by
 unfold twiceT
 rw [List.any_eq_true]
 exact ⟨g, List.mem_of_getElem? (i := k) (by rw [List.getElem?_take, if_pos hk]; exact hg), h⟩
theorem twiceT_no {fs : List PT} {i : Nat} {n : ByteArray} (h : ∀ j g, j < i → fs[j]? = some g → seq g.name n = false) : twiceT (fs.take i) n = false := by
 unfold twiceT
 rw [List.any_eq_false]
 intro g hg
 obtain ⟨j, hj⟩ := List.mem_iff_getElem?.1 hg
 rw [List.getElem?_take] at hj
 split at hj
 · rename_i hji
   simp [h j g hji hj]
 · cases hj
theorem twiceS_yes {fs : List PS} {i k : Nat} {g : PS} {n : ByteArray} (hk : k < i) (hg : fs[k]? = some g) (h : seq g.name n = true) : twiceS (fs.take i) n = true := by
 unfold twiceS
 rw [List.any_eq_true]
 exact ⟨g, List.mem_of_getElem? (i := k) (by rw [List.getElem?_take, if_pos hk]; exact hg), h⟩
theorem twiceS_no {fs : List PS} {i : Nat} {n : ByteArray} (h : ∀ j g, j < i → fs[j]? = some g → seq g.name n = false) : twiceS (fs.take i) n = false := by
 unfold twiceS
 rw [List.any_eq_false]
 intro g hg
 obtain ⟨j, hj⟩ := List.mem_iff_getElem?.1 hg
 rw [List.getElem?_take] at hj
 split at hj
 · rename_i hji
   simp [h j g hji hj]
 · cases hj
theorem wl_len (out : List Int) : (lrows (wl out)).length = out.length := by rw [lrows_wl]; simp [wrows]
set_option maxHeartbeats 8000000 in
theorem zRefValid (G : Glob) (b : PB) (hb : BaseIs b) : Vi.Fn Tryz.prog G 48 [.agg (encB b)] (.bool (refOk b)) := by
 have hL := hb.types.isL
 have hLs := hb.search.isL
 have hxl : (lrows b.tx).length = b.types.length := by rw [hb.types.rows]; simp
 have hsl : (lrows b.sx).length = b.search.length := by rw [hb.search.rows]; simp
 refine fn_body (fun _ => .iso) Tryz.func48 rfl ?_
 refine vc_norm (env' := (_ :: _ :: _ :: _ :: _ :: _ :: _ :: _ :: _ :: _ :: _ :: _ :: _ :: _ :: _ :: _ :: _ :: _ :: _ :: _ :: _ :: _ :: _ :: _ :: _ :: _ :: _ :: _ :: _ :: _ :: _ :: _ :: _ :: _ :: _ :: _ :: _ :: _ :: _ :: _ :: _ :: _ :: _ :: _ :: _ :: _ :: _ :: _ :: _ :: _ :: _ :: _ :: _ :: _ :: _ :: _ :: _ :: _ :: _ :: _ :: _ :: _ :: _ :: _ :: _ :: _ :: _ :: _ :: _ :: _ :: _ :: _ :: _ :: _ :: _ :: _ :: _ :: _ :: _ :: _ :: _ :: _ :: _ :: _ :: _ :: _ :: _ :: _ :: _ :: _ :: _ :: _ :: _ :: _ :: _ :: _ :: _ :: _ :: _ :: _ :: _ :: _ :: _ :: _ :: _ :: _ :: _ :: _ :: _ :: _ :: _ :: _ :: _ :: _ :: _ :: _ :: _ :: _ :: _ :: _ :: _ :: _ :: _ :: _ :: _ :: _ :: _ :: _ :: _ :: _ :: _ :: _ :: _ :: _ :: _ :: _ :: _ :: _ :: _ :: _ :: _ :: _ :: _ :: _ :: _ :: _ :: _ :: _ :: _ :: _ :: _ :: _ :: _ :: _ :: _ :: _ :: _ :: _ :: _ :: _ :: _ :: _ :: _ :: _ :: _ :: _ :: _ :: _ :: _ :: _ :: _ :: _ :: _ :: _ :: _ :: _ :: _ :: _ :: _ :: _ :: _ :: _ :: _ :: _ :: _ :: _ :: _ :: _ :: _ :: _ :: _ :: _ :: _ :: _ :: _ :: _ :: _ :: _ :: _ :: _ :: _ :: _ :: _ :: _ :: _ :: _ :: _ :: _ :: _ :: _ :: _ :: _ :: _ :: _ :: _ :: _ :: _ :: _ :: _ :: _ :: _ :: _ :: _ :: _ :: _ :: _ :: _ :: _ :: _ :: _ :: _ :: _ :: [])) (H' := []) rfl rfl ?_
 refine vs (wr ?_)
 refine w_opH (v := .ptr 0 0 0) (env' := _) (H2 := [.arr 25 4 [[_, _, _, _]]]) rfl rfl rfl rfl (fun _ h => h) (v232 rfl ?_)
 refine wN rfl rfl rfl (v232 rfl ?_)
 refine we rfl (vs (vs (wr ?_)))
 refine wN (v := .ptr 0 0 0) rfl rfl rfl (v232 rfl ?_)
 refine wN rfl rfl rfl (v232 rfl ?_)
 refine w_callI (env' := _) rfl rfl rfl (by kernel_rfl) rfl (by repeat' first | exact IsL.lend ‹_› | exact IsL.lend0 ‹_› | refine mapL_cons ?_ ?_ | refine lend_agg ?_ | rfl) (zNameR G b.name hb.short) rfl (v232 rfl ?_)
 iterate 2 refine wN rfl rfl rfl (v232 rfl ?_)
 refine w_split 13 rfl (fun hg13 => ?_) (fun hg13 => ?_)
 ·
  refine v232 rfl ?_
  iterate 3 refine wS (wanted_f 13 (by kernel_rfl) rfl) (v232 rfl ?_)
  iterate 2 refine wN rfl rfl rfl (v232 rfl ?_)
  iterate 3 refine wS (wanted_f 18 (by kernel_rfl) rfl) (v232 rfl ?_)
  iterate 2 refine wN rfl rfl rfl (v232 rfl ?_)
  iterate 4 refine wS (wanted_f 23 (by kernel_rfl) rfl) (v232 rfl ?_)
  iterate 2 refine wN rfl rfl rfl (v232 rfl ?_)
  iterate 4 refine wS (wanted_f 29 (by kernel_rfl) rfl) (v232 rfl ?_)
  iterate 2 refine wN rfl rfl rfl (v232 rfl ?_)
  iterate 4 refine wS (wanted_f 35 (by kernel_rfl) rfl) (v232 rfl ?_)
  refine wN rfl rfl rfl (v232 rfl ?_)
  refine we rfl ?_
  refine vc_true rfl ?_
  refine vs (wr ?_)
  refine wN rfl rfl rfl (v232 rfl ?_)
  refine we rfl (vc_ret (r_then (r_fn rfl ?_)))
  have he : refOk b = false := by simp only [refOk, refHead, hg13, Bool.true_or, Bool.or_true, Bool.not_true, Bool.false_and]
  show some (AV.bool false) = some (AV.bool (refOk b))
  rw [he]
 ·
  refine v232 rfl ?_
  refine wN (v := .ptr 0 0 1) (wanted_t 13 (by kernel_rfl) rfl) rfl rfl (v232 rfl ?_)
  iterate 2 refine wN (wanted_t 13 (by kernel_rfl) rfl) rfl rfl (v232 rfl ?_)
  iterate 2 refine wN rfl rfl rfl (v232 rfl ?_)
  refine w_split 18 rfl (fun hg18 => ?_) (fun hg18 => ?_)
  ·
   refine v232 rfl ?_
   iterate 3 refine wS (wanted_f 18 (by kernel_rfl) rfl) (v232 rfl ?_)
   iterate 2 refine wN rfl rfl rfl (v232 rfl ?_)
   iterate 4 refine wS (wanted_f 23 (by kernel_rfl) rfl) (v232 rfl ?_)
   iterate 2 refine wN rfl rfl rfl (v232 rfl ?_)
   iterate 4 refine wS (wanted_f 29 (by kernel_rfl) rfl) (v232 rfl ?_)
   iterate 2 refine wN rfl rfl rfl (v232 rfl ?_)
   iterate 4 refine wS (wanted_f 35 (by kernel_rfl) rfl) (v232 rfl ?_)
   refine wN rfl rfl rfl (v232 rfl ?_)
   refine we rfl ?_
   refine vc_true rfl ?_
   refine vs (wr ?_)
   refine wN rfl rfl rfl (v232 rfl ?_)
   refine we rfl (vc_ret (r_then (r_fn rfl ?_)))
   have he : refOk b = false := by simp only [refOk, refHead, hg18, Bool.true_or, Bool.or_true, Bool.not_true, Bool.false_and]
   show some (AV.bool false) = some (AV.bool (refOk b))
   rw [he]
  ·
   refine v232 rfl ?_
   refine wN (v := .ptr 0 0 1) (wanted_t 18 (by kernel_rfl) rfl) rfl rfl (v232 rfl ?_)
   iterate 2 refine wN (wanted_t 18 (by kernel_rfl) rfl) rfl rfl (v232 rfl ?_)
   iterate 2 refine wN rfl rfl rfl (v232 rfl ?_)
   refine w_split 23 rfl (fun hg23 => ?_) (fun hg23 => ?_)
   ·
    refine v232 rfl ?_
    iterate 4 refine wS (wanted_f 23 (by kernel_rfl) rfl) (v232 rfl ?_)
    iterate 2 refine wN rfl rfl rfl (v232 rfl ?_)
    iterate 4 refine wS (wanted_f 29 (by kernel_rfl) rfl) (v232 rfl ?_)
    iterate 2 refine wN rfl rfl rfl (v232 rfl ?_)
    iterate 4 refine wS (wanted_f 35 (by kernel_rfl) rfl) (v232 rfl ?_)
    refine wN rfl rfl rfl (v232 rfl ?_)
    refine we rfl ?_
    refine vc_true rfl ?_
    refine vs (wr ?_)
    refine wN rfl rfl rfl (v232 rfl ?_)
    refine we rfl (vc_ret (r_then (r_fn rfl ?_)))
    have he : refOk b = false := by simp only [refOk, refHead, hg23, Bool.true_or, Bool.or_true, Bool.not_true, Bool.false_and]
    show some (AV.bool false) = some (AV.bool (refOk b))
    rw [he]
   ·
    refine v232 rfl ?_
    refine wN (v := .ptr 0 0 2) (wanted_t 23 (by kernel_rfl) rfl) rfl rfl (v232 rfl ?_)
    refine wN (wanted_t 23 (by kernel_rfl) rfl) rfl rfl (v232 rfl ?_)
    first | refine wN (wanted_t 23 (by kernel_rfl) rfl) rfl rfl (v232 rfl ?_) | refine x_len (wanted_t 23 (by kernel_rfl) rfl) rfl ‹_› Tryz.underlying22 rfl (v232 rfl ?_)
    refine wN (wanted_t 23 (by kernel_rfl) rfl) rfl rfl (v232 rfl ?_)
    iterate 2 refine wN rfl rfl rfl (v232 rfl ?_)
    refine w_split 29 rfl (fun hg29 => ?_) (fun hg29 => ?_)
    ·
     rw [hxl] at hg29
     refine v232 rfl ?_
     iterate 4 refine wS (wanted_f 29 (by kernel_rfl) rfl) (v232 rfl ?_)
     iterate 2 refine wN rfl rfl rfl (v232 rfl ?_)
     iterate 4 refine wS (wanted_f 35 (by kernel_rfl) rfl) (v232 rfl ?_)
     refine wN rfl rfl rfl (v232 rfl ?_)
     refine we rfl ?_
     refine vc_true rfl ?_
     refine vs (wr ?_)
     refine wN rfl rfl rfl (v232 rfl ?_)
     refine we rfl (vc_ret (r_then (r_fn rfl ?_)))
     have he : refOk b = false := by simp only [refOk, refHead, hg29, Bool.true_or, Bool.or_true, Bool.not_true, Bool.false_and]
     show some (AV.bool false) = some (AV.bool (refOk b))
     rw [he]
    ·
     rw [hxl] at hg29
     refine v232 rfl ?_
     refine wN (v := .ptr 0 0 2) (wanted_t 29 (by kernel_rfl) rfl) rfl rfl (v232 rfl ?_)
     refine wN (wanted_t 29 (by kernel_rfl) rfl) rfl rfl (v232 rfl ?_)
     first | refine wN (wanted_t 29 (by kernel_rfl) rfl) rfl rfl (v232 rfl ?_) | refine x_len (wanted_t 29 (by kernel_rfl) rfl) rfl ‹_› Tryz.underlying22 rfl (v232 rfl ?_)
     refine wN (wanted_t 29 (by kernel_rfl) rfl) rfl rfl (v232 rfl ?_)
     iterate 2 refine wN rfl rfl rfl (v232 rfl ?_)
     refine w_split 35 rfl (fun hg35 => ?_) (fun hg35 => ?_)
     ·
      rw [hxl] at hg35
      refine v232 rfl ?_
      iterate 4 refine wS (wanted_f 35 (by kernel_rfl) rfl) (v232 rfl ?_)
      refine wN rfl rfl rfl (v232 rfl ?_)
      refine we rfl ?_
      refine vc_true rfl ?_
      refine vs (wr ?_)
      refine wN rfl rfl rfl (v232 rfl ?_)
      refine we rfl (vc_ret (r_then (r_fn rfl ?_)))
      have he : refOk b = false := by simp only [refOk, refHead, hg35, Bool.true_or, Bool.or_true, Bool.not_true, Bool.false_and]
      show some (AV.bool false) = some (AV.bool (refOk b))
      rw [he]
     ·
      rw [hxl] at hg35
      refine v232 rfl ?_
      refine wN (v := .ptr 0 0 3) (wanted_t 35 (by kernel_rfl) rfl) rfl rfl (v232 rfl ?_)
      refine wN (wanted_t 35 (by kernel_rfl) rfl) rfl rfl (v232 rfl ?_)
      first | refine wN (wanted_t 35 (by kernel_rfl) rfl) rfl rfl (v232 rfl ?_) | refine x_len (wanted_t 35 (by kernel_rfl) rfl) rfl ‹_› Tryz.underlying23 rfl (v232 rfl ?_)
      refine wN (wanted_t 35 (by kernel_rfl) rfl) rfl rfl (v232 rfl ?_)
      refine wN rfl rfl rfl (v232 rfl ?_)
      refine we rfl ?_
      refine vc_cond rfl (fun hc40 => ?_) (fun hc40 => ?_)
      ·
       rw [hsl] at hc40
       refine vs (wr ?_)
       refine wN rfl rfl rfl (v232 rfl ?_)
       refine we rfl (vc_ret (r_then (r_fn rfl ?_)))
       have he : refOk b = false := by simp only [refOk, refHead, hc40, Bool.true_or, Bool.or_true, Bool.not_true, Bool.false_and]
       show some (AV.bool false) = some (AV.bool (refOk b))
       rw [he]
      ·
       rw [hsl] at hc40
       have h8 : b.types.length ≤ 8 := by have := of_decide_eq_false hg35; omega
       have h3 : b.search.length ≤ 3 := by have := of_decide_eq_false hc40; omega
       have hhd : refHead b = true := by simp only [refHead, hg13, hg18, hg23, hg29, hg35, hc40, Bool.or_false, Bool.not_false]
       refine vc_skip (n_then (vs (vs (wr ?_))))
       refine wN rfl rfl rfl (v232 rfl ?_)
       refine we rfl (vc_block ?_)
       refine vc_loopU (α := { i : Nat // (∀ j, j < i → refTypeAt b.types j = true) ∧ i ≤ b.types.length }) (fun i => ([none, none, some .undef, some (.int .i64 (i.1 : Nat)), some .undef, some .undef] ++ (rnone 35 ++ (rundef 109 ++ (rnone 82))))) (fun i => b.types.length - i.1) ⟨0, fun j h => by omega, by omega⟩ (by repeat' first | exact trivial | refine ⟨.inr rfl, ?_⟩ | refine ⟨.inl rfl, ?_⟩ | fail) (fun _ => ⟨Nat.zero_le _, (by repeat' first | exact trivial | exact IsL.belowV ‹_› | refine ⟨?_, ?_⟩ | exact IsL.below ‹_› | (simp [valB, leafB, cellsB, IsL.below, *]; done) | (simp [valB, leafB, cellsB, IsL.below, *]; omega) | fail), (by repeat' first | exact trivial | exact IsL.below (by assumption) | refine ⟨?_, ?_⟩ | (simp [leafB]; done))⟩) ?_
       rintro ⟨i, hn, hi⟩ Y0 hY0
       refine vc_norm (env' := (_ :: _ :: _ :: (.int .i64 (i : Int)) :: _ :: _ :: _ :: _ :: _ :: _ :: _ :: _ :: _ :: _ :: _ :: _ :: _ :: _ :: _ :: _ :: _ :: _ :: _ :: _ :: _ :: _ :: _ :: _ :: _ :: _ :: _ :: _ :: _ :: _ :: _ :: _ :: _ :: _ :: _ :: _ :: _ :: _ :: _ :: _ :: _ :: _ :: _ :: _ :: _ :: _ :: _ :: _ :: _ :: _ :: _ :: _ :: _ :: _ :: _ :: _ :: _ :: _ :: _ :: _ :: _ :: _ :: _ :: _ :: _ :: _ :: _ :: _ :: _ :: _ :: _ :: _ :: _ :: _ :: _ :: _ :: _ :: _ :: _ :: _ :: _ :: _ :: _ :: _ :: _ :: _ :: _ :: _ :: _ :: _ :: _ :: _ :: _ :: _ :: _ :: _ :: _ :: _ :: _ :: _ :: _ :: _ :: _ :: _ :: _ :: _ :: _ :: _ :: _ :: _ :: _ :: _ :: _ :: _ :: _ :: _ :: _ :: _ :: _ :: _ :: _ :: _ :: _ :: _ :: _ :: _ :: _ :: _ :: _ :: _ :: _ :: _ :: _ :: _ :: _ :: _ :: _ :: _ :: _ :: _ :: _ :: _ :: _ :: _ :: _ :: _ :: _ :: _ :: _ :: _ :: _ :: _ :: _ :: _ :: _ :: _ :: _ :: _ :: _ :: _ :: _ :: _ :: _ :: _ :: _ :: _ :: _ :: _ :: _ :: _ :: _ :: _ :: _ :: _ :: _ :: _ :: _ :: _ :: _ :: _ :: _ :: _ :: _ :: _ :: _ :: _ :: _ :: _ :: _ :: _ :: _ :: _ :: _ :: _ :: _ :: _ :: _ :: _ :: _ :: _ :: _ :: _ :: _ :: _ :: _ :: _ :: _ :: _ :: _ :: _ :: _ :: _ :: _ :: _ :: _ :: _ :: _ :: _ :: _ :: _ :: _ :: _ :: _ :: _ :: _ :: _ :: _ :: _ :: [])) (H' := [.arr 25 4 [[_, _, _, _]]]) rfl rfl ?_
       refine vs (vs (wr ?_))
       refine wN rfl rfl rfl (v232 rfl ?_)
       refine wN (v := .ptr 0 0 2) rfl rfl rfl (v232 rfl ?_)
       refine wN rfl rfl rfl (v232 rfl ?_)
       first | refine wN rfl rfl rfl (v232 rfl ?_) | refine x_len rfl rfl ‹_› Tryz.underlying22 rfl (v232 rfl ?_)
       refine wN rfl rfl rfl (v232 rfl ?_)
       refine we rfl ?_
       refine vc_cond rfl (fun hc45 => ?_) (fun hc45 => ?_)
       ·
        have hlt : i < b.types.length := by have := of_decide_eq_true hc45; omega
        obtain ⟨t, htt⟩ : ∃ t, b.types[i]? = some t := ⟨_, List.getElem?_eq_getElem hlt⟩
        have hri : (lrows b.tx)[i]? = some [.str t.name, .int .i64 t.parent, .int .i64 t.min, .int .i64 t.size, t.fx, .int .i64 t.key, .bool t.unique, .bool t.last] := by rw [hb.types.rows, List.getElem?_map, htt]; rfl
        have hti := hb.types.each t (List.mem_of_getElem? htt)
        have hfL := hti.fx.isL
        have hU := ups_of hn
        have hile : i ≤ b.types.length := by omega
        refine vc_skip (n_then (vs (vc_block (vs (wr ?_)))))
        refine wN (v := .ptr 0 0 2) rfl rfl rfl (v232 rfl ?_)
        iterate 2 refine wN rfl rfl rfl (v232 rfl ?_)
        first | refine wN (v := .iptr _ [_, _, _, _, _, _, _, _]) rfl rfl rfl (v232 rfl ?_) | (refine x_index rfl rfl ‹_› rfl el22 (by omega) ‹_› rfl (fun bo => ?_); refine v232 rfl ?_)
        refine wN (v := .agg [_, _, _, _, _, _, _, _]) rfl rfl rfl (v232 rfl ?_)
        refine w_opH (v := .ptr 1 0 0) (env' := _) (H2 := [.arr 25 4 [[_, _, _, _]], .arr 62 8 [[_, _, _, _, _, _, _, _]]]) rfl rfl rfl rfl (fun _ h => h) (v232 rfl ?_)
        refine w_op0N (H2 := [.arr 25 4 [[_, _, _, _]], .arr 62 8 [[_, _, _, _, _, _, _, _]]]) rfl rfl rfl (fun _ h => h) ?_
        refine we rfl (vs (vs (wr ?_)))
        refine wN (v := .ptr 1 0 0) rfl rfl rfl (v232 rfl ?_)
        refine wN rfl rfl rfl (v232 rfl ?_)
        refine w_callI (env' := _) rfl rfl rfl (by kernel_rfl) rfl (by repeat' first | exact IsL.lend ‹_› | exact IsL.lend0 ‹_› | refine mapL_cons ?_ ?_ | refine lend_agg ?_ | rfl) (zNameR G t.name hti.short) rfl (v232 rfl ?_)
        iterate 2 refine wN rfl rfl rfl (v232 rfl ?_)
        refine w_split 57 rfl (fun hg57 => ?_) (fun hg57 => ?_)
        ·
         refine v232 rfl ?_
         iterate 3 refine wS (wanted_f 57 (by kernel_rfl) rfl) (v232 rfl ?_)
         iterate 2 refine wN rfl rfl rfl (v232 rfl ?_)
         iterate 5 refine wS (wanted_f 62 (by kernel_rfl) rfl) (v232 rfl ?_)
         iterate 2 refine wN rfl rfl rfl (v232 rfl ?_)
         iterate 3 refine wS (wanted_f 69 (by kernel_rfl) rfl) (v232 rfl ?_)
         iterate 2 refine wN rfl rfl rfl (v232 rfl ?_)
         iterate 3 refine wS (wanted_f 74 (by kernel_rfl) rfl) (v232 rfl ?_)
         refine wN rfl rfl rfl (v232 rfl ?_)
         refine we rfl ?_
         refine vc_true rfl ?_
         refine vs (wr ?_)
         refine wN rfl rfl rfl (v232 rfl ?_)
         refine we rfl (vc_ret (r_then (r_block (r_then (r_then (r_block (r_then (r_fn rfl ?_))))))))
         have hr : refType b.types i t = false := by
          have h1 : refTBad t = true := by simp only [refTBad, hg57, Bool.true_or, Bool.or_true]
          rw [refType, h1]; rfl
         have he := ref_noT htt hr
         show some (AV.bool false) = some (AV.bool (refOk b))
         rw [he]
        ·
         refine v232 rfl ?_
         refine wN (v := .ptr 1 0 2) (wanted_t 57 (by kernel_rfl) rfl) rfl rfl (v232 rfl ?_)
         iterate 2 refine wN (wanted_t 57 (by kernel_rfl) rfl) rfl rfl (v232 rfl ?_)
         iterate 2 refine wN rfl rfl rfl (v232 rfl ?_)
         refine w_split 62 rfl (fun hg62 => ?_) (fun hg62 => ?_)
         ·
          refine v232 rfl ?_
          iterate 5 refine wS (wanted_f 62 (by kernel_rfl) rfl) (v232 rfl ?_)
          iterate 2 refine wN rfl rfl rfl (v232 rfl ?_)
          iterate 3 refine wS (wanted_f 69 (by kernel_rfl) rfl) (v232 rfl ?_)
          iterate 2 refine wN rfl rfl rfl (v232 rfl ?_)
          iterate 3 refine wS (wanted_f 74 (by kernel_rfl) rfl) (v232 rfl ?_)
          refine wN rfl rfl rfl (v232 rfl ?_)
          refine we rfl ?_
          refine vc_true rfl ?_
          refine vs (wr ?_)
          refine wN rfl rfl rfl (v232 rfl ?_)
          refine we rfl (vc_ret (r_then (r_block (r_then (r_then (r_block (r_then (r_fn rfl ?_))))))))
          have hr : refType b.types i t = false := by
           have h1 : refTBad t = true := by simp only [refTBad, hg62, Bool.true_or, Bool.or_true]
           rw [refType, h1]; rfl
          have he := ref_noT htt hr
          show some (AV.bool false) = some (AV.bool (refOk b))
          rw [he]
         ·
          refine v232 rfl ?_
          refine wN (v := .ptr 1 0 2) (wanted_t 62 (by kernel_rfl) rfl) rfl rfl (v232 rfl ?_)
          refine wN (wanted_t 62 (by kernel_rfl) rfl) rfl rfl (v232 rfl ?_)
          refine wN (v := .ptr 1 0 3) (wanted_t 62 (by kernel_rfl) rfl) rfl rfl (v232 rfl ?_)
          iterate 2 refine wN (wanted_t 62 (by kernel_rfl) rfl) rfl rfl (v232 rfl ?_)
          iterate 2 refine wN rfl rfl rfl (v232 rfl ?_)
          refine w_split 69 rfl (fun hg69 => ?_) (fun hg69 => ?_)
          ·
           refine v232 rfl ?_
           iterate 3 refine wS (wanted_f 69 (by kernel_rfl) rfl) (v232 rfl ?_)
           iterate 2 refine wN rfl rfl rfl (v232 rfl ?_)
           iterate 3 refine wS (wanted_f 74 (by kernel_rfl) rfl) (v232 rfl ?_)
           refine wN rfl rfl rfl (v232 rfl ?_)
           refine we rfl ?_
           refine vc_true rfl ?_
           refine vs (wr ?_)
           refine wN rfl rfl rfl (v232 rfl ?_)
           refine we rfl (vc_ret (r_then (r_block (r_then (r_then (r_block (r_then (r_fn rfl ?_))))))))
           have hr : refType b.types i t = false := by
            have h1 : refTBad t = true := by simp only [refTBad, hg69, Bool.true_or, Bool.or_true]
            rw [refType, h1]; rfl
           have he := ref_noT htt hr
           show some (AV.bool false) = some (AV.bool (refOk b))
           rw [he]
          ·
           refine v232 rfl ?_
           refine wN (v := .ptr 1 0 3) (wanted_t 69 (by kernel_rfl) rfl) rfl rfl (v232 rfl ?_)
           iterate 2 refine wN (wanted_t 69 (by kernel_rfl) rfl) rfl rfl (v232 rfl ?_)
           iterate 2 refine wN rfl rfl rfl (v232 rfl ?_)
           refine w_split 74 rfl (fun hg74 => ?_) (fun hg74 => ?_)
           ·
            refine v232 rfl ?_
            iterate 3 refine wS (wanted_f 74 (by kernel_rfl) rfl) (v232 rfl ?_)
            refine wN rfl rfl rfl (v232 rfl ?_)
            refine we rfl ?_
            refine vc_true rfl ?_
            refine vs (wr ?_)
            refine wN rfl rfl rfl (v232 rfl ?_)
            refine we rfl (vc_ret (r_then (r_block (r_then (r_then (r_block (r_then (r_fn rfl ?_))))))))
            have hr : refType b.types i t = false := by
             have h1 : refTBad t = true := by simp only [refTBad, hg74, Bool.true_or, Bool.or_true]
             rw [refType, h1]; rfl
            have he := ref_noT htt hr
            show some (AV.bool false) = some (AV.bool (refOk b))
            rw [he]
           ·
            refine v232 rfl ?_
            refine wN (v := .agg [_, _, _, _, _, _, _, _]) (wanted_t 74 (by kernel_rfl) rfl) rfl rfl (v232 rfl ?_)
            refine w_callI (env' := _) (wanted_t 74 (by kernel_rfl) rfl) rfl rfl (by kernel_rfl) rfl (by repeat' first | exact IsL.lend ‹_› | exact IsL.lend0 ‹_› | refine mapL_cons ?_ ?_ | refine lend_agg ?_ | rfl) (zRefFields G t hti (by have := of_decide_eq_false hg62; have := of_decide_eq_false hg69; omega) (by have := of_decide_eq_false hg74; omega)) rfl (v232 rfl ?_)
            refine wN (wanted_t 74 (by kernel_rfl) rfl) rfl rfl (v232 rfl ?_)
            refine wN rfl rfl rfl (v232 rfl ?_)
            refine we rfl ?_
            refine vc_cond rfl (fun hc78 => ?_) (fun hc78 => ?_)
            ·
             refine vs (wr ?_)
             refine wN rfl rfl rfl (v232 rfl ?_)
             refine we rfl (vc_ret (r_then (r_block (r_then (r_then (r_block (r_then (r_fn rfl ?_))))))))
             have hr : refType b.types i t = false := by
              have h1 : refTBad t = true := by simp only [refTBad, hc78, Bool.true_or, Bool.or_true]
              rw [refType, h1]; rfl
             have he := ref_noT htt hr
             show some (AV.bool false) = some (AV.bool (refOk b))
             rw [he]
            ·
             have htb : refTBad t = false := by simp only [refTBad, hg57, hg62, hg69, hg74, hc78, Bool.or_false]
             refine vc_skip (n_then (vs (vs (wr ?_))))
             refine wN rfl rfl rfl (v232 rfl ?_)
             refine we rfl (vc_block ?_)
             refine vc_loopU (α := { k : Nat // (∀ j g, j < k → b.types[j]? = some g → seq g.name t.name = false) ∧ k ≤ i }) (fun k => ([none, none, some .undef, none, none, some (.int .i64 (k.1 : Nat))] ++ (rnone 73 ++ (rundef 14 ++ (rnone 139))))) (fun k => i - k.1) ⟨0, fun j g h => by omega, by omega⟩ (by repeat' first | exact trivial | refine ⟨.inr rfl, ?_⟩ | refine ⟨.inl rfl, ?_⟩ | fail) (fun _ => ⟨Nat.zero_le _, (by repeat' first | exact trivial | exact IsL.belowV ‹_› | refine ⟨?_, ?_⟩ | exact IsL.below ‹_› | (simp [valB, leafB, cellsB, IsL.below, *]; done) | (simp [valB, leafB, cellsB, IsL.below, *]; omega) | fail), (by repeat' first | exact trivial | exact IsL.below (by assumption) | refine ⟨?_, ?_⟩ | (simp [leafB]; done))⟩) ?_
             rintro ⟨k, hkn, hki⟩ Y1 hY1
             refine vc_norm (env' := (_ :: _ :: _ :: _ :: _ :: (.int .i64 (k : Int)) :: _ :: _ :: _ :: _ :: _ :: _ :: _ :: _ :: _ :: _ :: _ :: _ :: _ :: _ :: _ :: _ :: _ :: _ :: _ :: _ :: _ :: _ :: _ :: _ :: _ :: _ :: _ :: _ :: _ :: _ :: _ :: _ :: _ :: _ :: _ :: _ :: _ :: _ :: _ :: _ :: _ :: _ :: _ :: _ :: _ :: _ :: _ :: _ :: _ :: _ :: _ :: _ :: _ :: _ :: _ :: _ :: _ :: _ :: _ :: _ :: _ :: _ :: _ :: _ :: _ :: _ :: _ :: _ :: _ :: _ :: _ :: _ :: _ :: _ :: _ :: _ :: _ :: _ :: _ :: _ :: _ :: _ :: _ :: _ :: _ :: _ :: _ :: _ :: _ :: _ :: _ :: _ :: _ :: _ :: _ :: _ :: _ :: _ :: _ :: _ :: _ :: _ :: _ :: _ :: _ :: _ :: _ :: _ :: _ :: _ :: _ :: _ :: _ :: _ :: _ :: _ :: _ :: _ :: _ :: _ :: _ :: _ :: _ :: _ :: _ :: _ :: _ :: _ :: _ :: _ :: _ :: _ :: _ :: _ :: _ :: _ :: _ :: _ :: _ :: _ :: _ :: _ :: _ :: _ :: _ :: _ :: _ :: _ :: _ :: _ :: _ :: _ :: _ :: _ :: _ :: _ :: _ :: _ :: _ :: _ :: _ :: _ :: _ :: _ :: _ :: _ :: _ :: _ :: _ :: _ :: _ :: _ :: _ :: _ :: _ :: _ :: _ :: _ :: _ :: _ :: _ :: _ :: _ :: _ :: _ :: _ :: _ :: _ :: _ :: _ :: _ :: _ :: _ :: _ :: _ :: _ :: _ :: _ :: _ :: _ :: _ :: _ :: _ :: _ :: _ :: _ :: _ :: _ :: _ :: _ :: _ :: _ :: _ :: _ :: _ :: _ :: _ :: _ :: _ :: _ :: _ :: _ :: _ :: _ :: _ :: _ :: [])) (H' := [.arr 25 4 [[_, _, _, _]], .arr 62 8 [[_, _, _, _, _, _, _, _]]]) rfl rfl ?_
             refine vs (vs (wr ?_))
             iterate 3 refine wN rfl rfl rfl (v232 rfl ?_)
             refine we rfl ?_
             refine vc_cond rfl (fun hc81 => ?_) (fun hc81 => ?_)
             ·
              have hlk : k < i := by have := of_decide_eq_true hc81; omega
              obtain ⟨g, hg⟩ : ∃ g, b.types[k]? = some g := ⟨_, List.getElem?_eq_getElem (by omega)⟩
              have hrk : (lrows b.tx)[k]? = some [.str g.name, .int .i64 g.parent, .int .i64 g.min, .int .i64 g.size, g.fx, .int .i64 g.key, .bool g.unique, .bool g.last] := by rw [hb.types.rows, List.getElem?_map, hg]; rfl
              refine vc_skip (n_then (vs (vc_block (vs (w_regionD (by kernel_rfl) ?_)))))
              refine dN (v := .ptr 0 0 2) rfl rfl rfl (d232 rfl ?_)
              iterate 2 refine dN rfl rfl rfl (d232 rfl ?_)
              first | refine dN (v := .iptr _ [_, _, _, _, _, _, _, _]) rfl rfl rfl (d232 rfl ?_) | (refine y_index rfl rfl ‹_› rfl el22 (by omega) ‹_› rfl (fun bo => ?_); refine d232 rfl ?_)
              refine dN (v := .iptr _ [_, _, _, _, _, _, _, _]) rfl rfl rfl (d232 rfl ?_)
              refine dN rfl rfl rfl (d232 rfl ?_)
              refine dN (v := .ptr 1 0 0) rfl rfl rfl (d232 rfl ?_)
              iterate 2 refine dN rfl rfl rfl (d232 rfl ?_)
              refine d_end rfl ?_
              refine vc_cond rfl (fun hc92 => ?_) (fun hc92 => ?_)
              ·
               refine vs (wr ?_)
               refine wN rfl rfl rfl (v232 rfl ?_)
               refine we rfl (vc_ret (r_block (r_then (r_then (r_block (r_then (r_block (r_then (r_then (r_block (r_then (r_fn rfl ?_))))))))))))
               have hr : refType b.types i t = false := by rw [refType, twiceT_yes hlk hg hc92]; simp
               have he := ref_noT htt hr
               show some (AV.bool false) = some (AV.bool (refOk b))
               rw [he]
              ·
               refine vc_skip (n_block (n_then (wr ?_)))
               iterate 3 refine wN rfl rfl rfl (v232 rfl ?_)
               refine we rfl ?_
               refine hY1 ⟨k + 1, fun j g' hj hg' => by by_cases hjk : j = k; subst hjk; rw [hg] at hg'; cases hg'; exact hc92; exact hkn j g' (by omega) hg', hlk⟩ (by simp only; omega) _ _ _ ?_ rfl
               repeat' first | exact trivial | refine ⟨.inr rfl, ?_⟩ | refine ⟨.inl rfl, ?_⟩ | refine ⟨.inl ?_, ?_⟩ | fail
               all_goals first | exact (int_succ (by omega)).symm
             ·
              have htw : twiceT (b.types.take i) t.name = false := twiceT_no (fun j g hj hg => hkn j g (by have := of_decide_eq_false hc81; omega) hg)
              refine vc_exit (x_then (x_then (x_same (n_then (vs (vs (wr ?_)))))))
              iterate 2 refine wN rfl rfl rfl (v232 rfl ?_)
              refine we rfl ?_
              refine vc_cond rfl (fun hc94 => ?_) (fun hc94 => ?_)
              ·
               have hi0 : i = 0 := by simp at hc94; omega
               refine vs (vs (wr ?_))
               refine wN (v := .ptr 1 0 1) rfl rfl rfl (v232 rfl ?_)
               iterate 3 refine wN rfl rfl rfl (v232 rfl ?_)
               refine w_split 98 rfl (fun hg98 => ?_) (fun hg98 => ?_)
               ·
                refine v232 rfl ?_
                iterate 3 refine wS (wanted_f 98 (by kernel_rfl) rfl) (v232 rfl ?_)
                iterate 2 refine wN rfl rfl rfl (v232 rfl ?_)
                iterate 3 refine wS (wanted_f 103 (by kernel_rfl) rfl) (v232 rfl ?_)
                iterate 2 refine wN rfl rfl rfl (v232 rfl ?_)
                iterate 8 refine wS (wanted_f 108 (by kernel_rfl) rfl) (v232 rfl ?_)
                refine wN rfl rfl rfl (v232 rfl ?_)
                refine we rfl ?_
                refine vc_true rfl ?_
                refine vs (wr ?_)
                refine wN rfl rfl rfl (v232 rfl ?_)
                refine we rfl (vc_ret (r_then (r_then (r_block (r_then (r_then (r_block (r_then (r_fn rfl ?_)))))))))
                have hr : refType b.types i t = false := by
                 have h1 : rootBad t = true := by simp only [rootBad, hg98, Bool.true_or, Bool.or_true]
                 rw [refType, if_pos hi0, h1]; simp
                have he := ref_noT htt hr
                show some (AV.bool false) = some (AV.bool (refOk b))
                rw [he]
               ·
                refine v232 rfl ?_
                refine wN (v := .ptr 1 0 5) (wanted_t 98 (by kernel_rfl) rfl) rfl rfl (v232 rfl ?_)
                iterate 2 refine wN (wanted_t 98 (by kernel_rfl) rfl) rfl rfl (v232 rfl ?_)
                iterate 2 refine wN rfl rfl rfl (v232 rfl ?_)
                refine w_split 103 rfl (fun hg103 => ?_) (fun hg103 => ?_)
                ·
                 refine v232 rfl ?_
                 iterate 3 refine wS (wanted_f 103 (by kernel_rfl) rfl) (v232 rfl ?_)
                 iterate 2 refine wN rfl rfl rfl (v232 rfl ?_)
                 iterate 8 refine wS (wanted_f 108 (by kernel_rfl) rfl) (v232 rfl ?_)
                 refine wN rfl rfl rfl (v232 rfl ?_)
                 refine we rfl ?_
                 refine vc_true rfl ?_
                 refine vs (wr ?_)
                 refine wN rfl rfl rfl (v232 rfl ?_)
                 refine we rfl (vc_ret (r_then (r_then (r_block (r_then (r_then (r_block (r_then (r_fn rfl ?_)))))))))
                 have hr : refType b.types i t = false := by
                  have h1 : rootBad t = true := by simp only [rootBad, hg103, Bool.true_or, Bool.or_true]
                  rw [refType, if_pos hi0, h1]; simp
                 have he := ref_noT htt hr
                 show some (AV.bool false) = some (AV.bool (refOk b))
                 rw [he]
                ·
                 refine v232 rfl ?_
                 refine wN (v := .ptr 1 0 6) (wanted_t 103 (by kernel_rfl) rfl) rfl rfl (v232 rfl ?_)
                 iterate 2 refine wN (wanted_t 103 (by kernel_rfl) rfl) rfl rfl (v232 rfl ?_)
                 iterate 2 refine wN rfl rfl rfl (v232 rfl ?_)
                 refine w_split 108 rfl (fun hg108 => ?_) (fun hg108 => ?_)
                 ·
                  refine v232 rfl ?_
                  iterate 8 refine wS (wanted_f 108 (by kernel_rfl) rfl) (v232 rfl ?_)
                  refine wN rfl rfl rfl (v232 rfl ?_)
                  refine we rfl ?_
                  refine vc_true rfl ?_
                  refine vs (wr ?_)
                  refine wN rfl rfl rfl (v232 rfl ?_)
                  refine we rfl (vc_ret (r_then (r_then (r_block (r_then (r_then (r_block (r_then (r_fn rfl ?_)))))))))
                  have hr : refType b.types i t = false := by
                   have h1 : rootBad t = true := by simp only [rootBad, hg108, Bool.true_or, Bool.or_true]
                   rw [refType, if_pos hi0, h1]; simp
                  have he := ref_noT htt hr
                  show some (AV.bool false) = some (AV.bool (refOk b))
                  rw [he]
                 ·
                  have hk0 : 0 ≤ t.key := by have := of_decide_eq_false hg103; omega
                  obtain ⟨f, hf⟩ : ∃ f, t.fields[t.key.toNat]? = some f := ⟨_, List.getElem?_eq_getElem (refFields_key (by simpa using hc78) hk0)⟩
                  have hrf : (lrows t.fx)[t.key.toNat]? = some [.str f.name, .int .i64 f.at_, .int .i64 f.bytes] := by rw [hti.fx.rows, List.getElem?_map, hf]; rfl
                  have hkb : keyBytes t = f.bytes := by rw [keyBytes, hf]
                  refine v232 rfl ?_
                  refine wN (v := .ptr 1 0 4) (wanted_t 108 (by kernel_rfl) rfl) rfl rfl (v232 rfl ?_)
                  refine wN (wanted_t 108 (by kernel_rfl) rfl) rfl rfl (v232 rfl ?_)
                  refine wN (v := .ptr 1 0 5) (wanted_t 108 (by kernel_rfl) rfl) rfl rfl (v232 rfl ?_)
                  refine wN (wanted_t 108 (by kernel_rfl) rfl) rfl rfl (v232 rfl ?_)
                  first | refine wN (v := .iptr _ [_, _, _]) (wanted_t 108 (by kernel_rfl) rfl) rfl rfl (v232 rfl ?_) | (refine x_index (wanted_t 108 (by kernel_rfl) rfl) rfl ‹_› rfl el60 (by omega) ‹_› rfl (fun bo => ?_); refine v232 rfl ?_)
                  refine wN (v := .iptr _ [_]) (wanted_t 108 (by kernel_rfl) rfl) rfl rfl (v232 rfl ?_)
                  iterate 2 refine wN (wanted_t 108 (by kernel_rfl) rfl) rfl rfl (v232 rfl ?_)
                  refine wN rfl rfl rfl (v232 rfl ?_)
                  refine we rfl ?_
                  refine vc_cond rfl (fun hc117 => ?_) (fun hc117 => ?_)
                  ·
                   refine vs (wr ?_)
                   refine wN rfl rfl rfl (v232 rfl ?_)
                   refine we rfl (vc_ret (r_then (r_then (r_block (r_then (r_then (r_block (r_then (r_fn rfl ?_)))))))))
                   have hr : refType b.types i t = false := by
                    have h1 : rootBad t = true := by simp only [rootBad, hkb, hc117, Bool.true_or, Bool.or_true]
                    rw [refType, if_pos hi0, h1]; simp
                   have he := ref_noT htt hr
                   show some (AV.bool false) = some (AV.bool (refOk b))
                   rw [he]
                  ·
                   have hrb : rootBad t = false := by simp only [rootBad, hg98, hg103, hg108, hkb, hc117, Bool.or_false]
                   refine vc_skip (n_then (vc_exit (x_then (x_same (n_then (wr ?_))))))
                   iterate 3 refine wN rfl rfl rfl (v232 rfl ?_)
                   refine we rfl ?_
                   refine hY0 ⟨i + 1, upto_all hn (by simp only [refTypeAt, htt, refType, htb, htw, if_pos hi0, hrb]; rfl), hlt⟩ (by simp only; omega) _ _ _ ?_ rfl
                   repeat' first | exact trivial | refine ⟨.inr rfl, ?_⟩ | refine ⟨.inl rfl, ?_⟩ | refine ⟨.inl ?_, ?_⟩ | fail
                   all_goals first | exact (int_succ (by omega)).symm
              ·
               have hi0 : ¬ i = 0 := by simp at hc94; omega
               refine vc_skip (n_then (vs (wr ?_)))
               refine wN (v := .ptr 1 0 1) rfl rfl rfl (v232 rfl ?_)
               iterate 3 refine wN rfl rfl rfl (v232 rfl ?_)
               refine w_split 121 rfl (fun hg121 => ?_) (fun hg121 => ?_)
               ·
                refine v232 rfl ?_
                iterate 4 refine wS (wanted_f 121 (by kernel_rfl) rfl) (v232 rfl ?_)
                iterate 2 refine wN rfl rfl rfl (v232 rfl ?_)
                iterate 6 refine wS (wanted_f 127 (by kernel_rfl) rfl) (v232 rfl ?_)
                iterate 7 refine wS (wanted_k 133 (by kernel_rfl) rfl) (v232 rfl ?_)
                refine wS (wanted_f 127 (by kernel_rfl) rfl) (v232 rfl ?_)
                iterate 2 refine wN rfl rfl rfl (v232 rfl ?_)
                iterate 5 refine wS (wanted_f 143 (by kernel_rfl) rfl) (v232 rfl ?_)
                refine wN rfl rfl rfl (v232 rfl ?_)
                refine we rfl ?_
                refine vc_true rfl ?_
                refine vs (wr ?_)
                refine wN rfl rfl rfl (v232 rfl ?_)
                refine we rfl (vc_ret (r_block (r_then (r_then (r_block (r_then (r_fn rfl ?_)))))))
                have hr : refType b.types i t = false := by
                 have h1 : upBad b.types i t = true := by simp only [upBad, hg121, Bool.true_or, Bool.or_true, Bool.true_and]
                 rw [refType, if_neg hi0, h1]; simp
                have he := ref_noT htt hr
                show some (AV.bool false) = some (AV.bool (refOk b))
                rw [he]
               ·
                have hp0 := of_decide_eq_false hg121
                refine v232 rfl ?_
                refine wN (v := .ptr 1 0 1) (wanted_t 121 (by kernel_rfl) rfl) rfl rfl (v232 rfl ?_)
                iterate 3 refine wN (wanted_t 121 (by kernel_rfl) rfl) rfl rfl (v232 rfl ?_)
                iterate 2 refine wN rfl rfl rfl (v232 rfl ?_)
                refine w_split 127 rfl (fun hg127 => ?_) (fun hg127 => ?_)
                ·
                 refine v232 rfl ?_
                 iterate 6 refine wS (wanted_f 127 (by kernel_rfl) rfl) (v232 rfl ?_)
                 iterate 7 refine wS (wanted_k 133 (by kernel_rfl) rfl) (v232 rfl ?_)
                 refine wS (wanted_f 127 (by kernel_rfl) rfl) (v232 rfl ?_)
                 iterate 2 refine wN rfl rfl rfl (v232 rfl ?_)
                 iterate 5 refine wS (wanted_f 143 (by kernel_rfl) rfl) (v232 rfl ?_)
                 refine wN rfl rfl rfl (v232 rfl ?_)
                 refine we rfl ?_
                 refine vc_true rfl ?_
                 refine vs (wr ?_)
                 refine wN rfl rfl rfl (v232 rfl ?_)
                 refine we rfl (vc_ret (r_block (r_then (r_then (r_block (r_then (r_fn rfl ?_)))))))
                 have hr : refType b.types i t = false := by
                  have h1 : upBad b.types i t = true := by simp only [upBad, hg127, Bool.true_or, Bool.or_true, Bool.true_and]
                  rw [refType, if_neg hi0, h1]; simp
                 have he := ref_noT htt hr
                 show some (AV.bool false) = some (AV.bool (refOk b))
                 rw [he]
                ·
                 have hp1 := of_decide_eq_false hg127
                 have hU1 := ups_succ hU htt (by omega) (by omega)
                 have hwL := wl_L (way b.types (i : Int)).reverse
                 have hwl : (lrows (wl (way b.types (i : Int)).reverse)).length = (way b.types (i : Int)).length := by rw [wl_len, List.length_reverse]
                 refine v232 rfl ?_
                 refine wN (v := .ptr 1 0 1) (wanted_t 127 (by kernel_rfl) rfl) rfl rfl (v232 rfl ?_)
                 iterate 2 refine wN (wanted_t 127 (by kernel_rfl) rfl) rfl rfl (v232 rfl ?_)
                 refine wN (v := .int .i64 ((i - 1 : Nat) : Int)) (wanted_t 127 (by kernel_rfl) rfl) (int_eq (wrap_pred (by omega) (by omega))) rfl (v232 rfl ?_)
                 iterate 2 refine wN (wanted_t 127 (by kernel_rfl) rfl) rfl rfl (v232 rfl ?_)
                 refine w_split 133 rfl (fun hg133 => ?_) (fun hg133 => ?_)
                 ·
                  refine v232 rfl ?_
                  refine wN (v := .agg [_, _, _, _]) (wanted_t 133 (by kernel_rfl) rfl) rfl rfl (v232 rfl ?_)
                  refine wN (v := .ptr 1 0 1) (wanted_t 133 (by kernel_rfl) rfl) rfl rfl (v232 rfl ?_)
                  iterate 2 refine wN (wanted_t 133 (by kernel_rfl) rfl) rfl rfl (v232 rfl ?_)
                  refine wN (v := .int .i64 ((i - 1 : Nat) : Int)) (wanted_t 133 (by kernel_rfl) rfl) (int_eq (wrap_pred (by omega) (by omega))) rfl (v232 rfl ?_)
                  refine w_callI (env' := _) (wanted_t 133 (by kernel_rfl) rfl) rfl rfl (by kernel_rfl) rfl (by repeat' first | exact IsL.lend ‹_› | exact IsL.lend0 ‹_› | refine mapL_cons ?_ ?_ | refine lend_agg ?_ | rfl) (zAbove G b hb i hU hile t.parent ((i - 1 : Nat) : Int) (by omega) (by omega)) rfl (v232 rfl ?_)
                  refine wN (wanted_t 133 (by kernel_rfl) rfl) rfl rfl (v232 rfl ?_)
                  refine wN (wanted_t 127 (by kernel_rfl) rfl) rfl rfl (v232 rfl ?_)
                  iterate 2 refine wN rfl rfl rfl (v232 rfl ?_)
                  refine w_split 143 rfl (fun hg143 => ?_) (fun hg143 => ?_)
                  ·
                   refine v232 rfl ?_
                   iterate 5 refine wS (wanted_f 143 (by kernel_rfl) rfl) (v232 rfl ?_)
                   refine wN rfl rfl rfl (v232 rfl ?_)
                   refine we rfl ?_
                   refine vc_true rfl ?_
                   refine vs (wr ?_)
                   refine wN rfl rfl rfl (v232 rfl ?_)
                   refine we rfl (vc_ret (r_block (r_then (r_then (r_block (r_then (r_fn rfl ?_)))))))
                   have hr : refType b.types i t = false := by
                    have h1 : upBad b.types i t = true := by simp only [upBad, hg133, hg143, Bool.true_or, Bool.or_true, Bool.true_and]
                    rw [refType, if_neg hi0, h1]; simp
                   have he := ref_noT htt hr
                   show some (AV.bool false) = some (AV.bool (refOk b))
                   rw [he]
                  ·
                   refine v232 rfl ?_
                   refine wN (v := .agg [_, _, _, _]) (wanted_t 143 (by kernel_rfl) rfl) rfl rfl (v232 rfl ?_)
                   refine wN (wanted_t 143 (by kernel_rfl) rfl) rfl rfl (v232 rfl ?_)
                   refine w_callI (env' := _) (wanted_t 143 (by kernel_rfl) rfl) rfl rfl (by kernel_rfl) rfl (by repeat' first | exact IsL.lend ‹_› | exact IsL.lend0 ‹_› | refine mapL_cons ?_ ?_ | refine lend_agg ?_ | rfl) (zWay G b hb (i + 1) hU1 hlt (i : Int) (by omega) (by omega) (by omega)) rfl (v232 rfl ?_)
                   first | refine wN (wanted_t 143 (by kernel_rfl) rfl) rfl rfl (v232 rfl ?_) | refine x_len (wanted_t 143 (by kernel_rfl) rfl) rfl ‹_› Tryz.underlying35 rfl (v232 rfl ?_)
                   refine wN (wanted_t 143 (by kernel_rfl) rfl) rfl rfl (v232 rfl ?_)
                   refine wN rfl rfl rfl (v232 rfl ?_)
                   refine we rfl ?_
                   refine vc_cond rfl (fun hc149 => ?_) (fun hc149 => ?_)
                   ·
                    rw [hwl] at hc149
                    refine vs (wr ?_)
                    refine wN rfl rfl rfl (v232 rfl ?_)
                    refine we rfl (vc_ret (r_block (r_then (r_then (r_block (r_then (r_fn rfl ?_)))))))
                    have hr : refType b.types i t = false := by
                     have h1 : upBad b.types i t = true := by simp only [upBad, hc149, Bool.true_or, Bool.or_true, Bool.true_and]
                     rw [refType, if_neg hi0, h1]; simp
                    have he := ref_noT htt hr
                    show some (AV.bool false) = some (AV.bool (refOk b))
                    rw [he]
                   ·
                    rw [hwl] at hc149
                    have hub : upBad b.types i t = false := by simp only [upBad, hg121, hg127, hg133, hg143, hc149, Bool.or_false, Bool.false_and, Bool.and_false]
                    refine vc_skip (n_block (n_then (wr ?_)))
                    iterate 3 refine wN rfl rfl rfl (v232 rfl ?_)
                    refine we rfl ?_
                    refine hY0 ⟨i + 1, upto_all hn (by simp only [refTypeAt, htt, refType, htb, htw, if_neg hi0, hub]; rfl), hlt⟩ (by simp only; omega) _ _ _ ?_ rfl
                    repeat' first | exact trivial | refine ⟨.inr rfl, ?_⟩ | refine ⟨.inl rfl, ?_⟩ | refine ⟨.inl ?_, ?_⟩ | fail
                    all_goals first | exact (int_succ (by omega)).symm
                 ·
                  refine v232 rfl ?_
                  iterate 7 refine wS (wanted_f 133 (by kernel_rfl) rfl) (v232 rfl ?_)
                  refine wN (wanted_t 127 (by kernel_rfl) rfl) rfl rfl (v232 rfl ?_)
                  iterate 2 refine wN rfl rfl rfl (v232 rfl ?_)
                  refine wN (v := .agg [_, _, _, _]) (wanted_t 143 (by kernel_rfl) rfl) rfl rfl (v232 rfl ?_)
                  refine wN (wanted_t 143 (by kernel_rfl) rfl) rfl rfl (v232 rfl ?_)
                  refine w_callI (env' := _) (wanted_t 143 (by kernel_rfl) rfl) rfl rfl (by kernel_rfl) rfl (by repeat' first | exact IsL.lend ‹_› | exact IsL.lend0 ‹_› | refine mapL_cons ?_ ?_ | refine lend_agg ?_ | rfl) (zWay G b hb (i + 1) hU1 hlt (i : Int) (by omega) (by omega) (by omega)) rfl (v232 rfl ?_)
                  first | refine wN (wanted_t 143 (by kernel_rfl) rfl) rfl rfl (v232 rfl ?_) | refine x_len (wanted_t 143 (by kernel_rfl) rfl) rfl ‹_› Tryz.underlying35 rfl (v232 rfl ?_)
                  refine wN (wanted_t 143 (by kernel_rfl) rfl) rfl rfl (v232 rfl ?_)
                  refine wN rfl rfl rfl (v232 rfl ?_)
                  refine we rfl ?_
                  refine vc_cond rfl (fun hc149 => ?_) (fun hc149 => ?_)
                  ·
                   rw [hwl] at hc149
                   refine vs (wr ?_)
                   refine wN rfl rfl rfl (v232 rfl ?_)
                   refine we rfl (vc_ret (r_block (r_then (r_then (r_block (r_then (r_fn rfl ?_)))))))
                   have hr : refType b.types i t = false := by
                    have h1 : upBad b.types i t = true := by simp only [upBad, hc149, Bool.true_or, Bool.or_true, Bool.true_and]
                    rw [refType, if_neg hi0, h1]; simp
                   have he := ref_noT htt hr
                   show some (AV.bool false) = some (AV.bool (refOk b))
                   rw [he]
                  ·
                   rw [hwl] at hc149
                   have hub : upBad b.types i t = false := by simp only [upBad, hg121, hg127, hg133, hc149, Bool.or_false, Bool.false_and, Bool.and_false]
                   refine vc_skip (n_block (n_then (wr ?_)))
                   iterate 3 refine wN rfl rfl rfl (v232 rfl ?_)
                   refine we rfl ?_
                   refine hY0 ⟨i + 1, upto_all hn (by simp only [refTypeAt, htt, refType, htb, htw, if_neg hi0, hub]; rfl), hlt⟩ (by simp only; omega) _ _ _ ?_ rfl
                   repeat' first | exact trivial | refine ⟨.inr rfl, ?_⟩ | refine ⟨.inl rfl, ?_⟩ | refine ⟨.inl ?_, ?_⟩ | fail
                   all_goals first | exact (int_succ (by omega)).symm
       ·
        have hge : ¬ i < b.types.length := by have := of_decide_eq_false hc45; omega
        have hAT := all_upto hn (n := b.types.length) (by omega)
        refine vc_exit (x_then (x_then (x_same (n_then (vs (vs (wr ?_)))))))
        clear hY0 Y0
        refine wN rfl rfl rfl (v232 rfl ?_)
        refine we rfl (vc_block ?_)
        refine vc_loopU (α := { i : Nat // (∀ j, j < i → refSearchAt b.types b.search j = true) ∧ i ≤ b.search.length }) (fun i => ([none, none, some .undef, none, none, none, some (.int .i64 (i.1 : Nat)), some .undef, some .undef] ++ (rnone 141 ++ (rundef 82)))) (fun i => b.search.length - i.1) ⟨0, fun j h => by omega, by omega⟩ (by repeat' first | exact trivial | refine ⟨.inr rfl, ?_⟩ | refine ⟨.inl rfl, ?_⟩ | fail) (fun _ => ⟨Nat.zero_le _, (by repeat' first | exact trivial | exact IsL.belowV ‹_› | refine ⟨?_, ?_⟩ | exact IsL.below ‹_› | (simp [valB, leafB, cellsB, IsL.below, *]; done) | (simp [valB, leafB, cellsB, IsL.below, *]; omega) | fail), (by repeat' first | exact trivial | exact IsL.below (by assumption) | refine ⟨?_, ?_⟩ | (simp [leafB]; done))⟩) ?_
        rintro ⟨i, hn, hi⟩ Y2 hY2
        refine vc_norm (env' := (_ :: _ :: _ :: _ :: _ :: _ :: (.int .i64 (i : Int)) :: _ :: _ :: _ :: _ :: _ :: _ :: _ :: _ :: _ :: _ :: _ :: _ :: _ :: _ :: _ :: _ :: _ :: _ :: _ :: _ :: _ :: _ :: _ :: _ :: _ :: _ :: _ :: _ :: _ :: _ :: _ :: _ :: _ :: _ :: _ :: _ :: _ :: _ :: _ :: _ :: _ :: _ :: _ :: _ :: _ :: _ :: _ :: _ :: _ :: _ :: _ :: _ :: _ :: _ :: _ :: _ :: _ :: _ :: _ :: _ :: _ :: _ :: _ :: _ :: _ :: _ :: _ :: _ :: _ :: _ :: _ :: _ :: _ :: _ :: _ :: _ :: _ :: _ :: _ :: _ :: _ :: _ :: _ :: _ :: _ :: _ :: _ :: _ :: _ :: _ :: _ :: _ :: _ :: _ :: _ :: _ :: _ :: _ :: _ :: _ :: _ :: _ :: _ :: _ :: _ :: _ :: _ :: _ :: _ :: _ :: _ :: _ :: _ :: _ :: _ :: _ :: _ :: _ :: _ :: _ :: _ :: _ :: _ :: _ :: _ :: _ :: _ :: _ :: _ :: _ :: _ :: _ :: _ :: _ :: _ :: _ :: _ :: _ :: _ :: _ :: _ :: _ :: _ :: _ :: _ :: _ :: _ :: _ :: _ :: _ :: _ :: _ :: _ :: _ :: _ :: _ :: _ :: _ :: _ :: _ :: _ :: _ :: _ :: _ :: _ :: _ :: _ :: _ :: _ :: _ :: _ :: _ :: _ :: _ :: _ :: _ :: _ :: _ :: _ :: _ :: _ :: _ :: _ :: _ :: _ :: _ :: _ :: _ :: _ :: _ :: _ :: _ :: _ :: _ :: _ :: _ :: _ :: _ :: _ :: _ :: _ :: _ :: _ :: _ :: _ :: _ :: _ :: _ :: _ :: _ :: _ :: _ :: _ :: _ :: _ :: _ :: _ :: _ :: _ :: _ :: _ :: _ :: _ :: _ :: _ :: [])) (H' := [.arr 25 4 [[_, _, _, _]]]) rfl rfl ?_
        refine vs (vs (wr ?_))
        refine wN rfl rfl rfl (v232 rfl ?_)
        refine wN (v := .ptr 0 0 3) rfl rfl rfl (v232 rfl ?_)
        refine wN rfl rfl rfl (v232 rfl ?_)
        first | refine wN rfl rfl rfl (v232 rfl ?_) | refine x_len rfl rfl ‹_› Tryz.underlying23 rfl (v232 rfl ?_)
        refine wN rfl rfl rfl (v232 rfl ?_)
        refine we rfl ?_
        refine vc_cond rfl (fun hc154 => ?_) (fun hc154 => ?_)
        ·
         have hlt : i < b.search.length := by have := of_decide_eq_true hc154; omega
         obtain ⟨s, hss⟩ : ∃ s, b.search[i]? = some s := ⟨_, List.getElem?_eq_getElem hlt⟩
         have hri : (lrows b.sx)[i]? = some [.str s.name, .int .i64 s.type, .int .i64 s.field, .str s.sparse] := by rw [hb.search.rows, List.getElem?_map, hss]; rfl
         have hsn := hb.search.short s (List.mem_of_getElem? hss)
         refine vc_skip (n_then (vs (vc_block (vs (wr ?_)))))
         refine wN (v := .ptr 0 0 3) rfl rfl rfl (v232 rfl ?_)
         iterate 2 refine wN rfl rfl rfl (v232 rfl ?_)
         first | refine wN (v := .iptr _ [_, _, _, _]) rfl rfl rfl (v232 rfl ?_) | (refine x_index rfl rfl ‹_› rfl el23 (by omega) ‹_› rfl (fun bo => ?_); refine v232 rfl ?_)
         refine wN (v := .agg [_, _, _, _]) rfl rfl rfl (v232 rfl ?_)
         refine w_opH (v := .ptr 1 0 0) (env' := _) (H2 := [.arr 25 4 [[_, _, _, _]], .arr 136 4 [[_, _, _, _]]]) rfl rfl rfl rfl (fun _ h => h) (v232 rfl ?_)
         refine w_op0N (H2 := [.arr 25 4 [[_, _, _, _]], .arr 136 4 [[_, _, _, _]]]) rfl rfl rfl (fun _ h => h) ?_
         refine we rfl (vs (vs (w_regionD (by kernel_rfl) ?_)))
         refine dN (v := .ptr 1 0 0) rfl rfl rfl (d232 rfl ?_)
         refine dN rfl rfl rfl (d232 rfl ?_)
         refine d_callI (env' := _) rfl rfl rfl (by kernel_rfl) rfl (by repeat' first | exact IsL.lend ‹_› | exact IsL.lend0 ‹_› | refine mapL_cons ?_ ?_ | refine lend_agg ?_ | rfl) (zNameR G s.name hsn) rfl (d232 rfl ?_)
         iterate 2 refine dN rfl rfl rfl (d232 rfl ?_)
         refine d_split 166 rfl (fun hg166 => ?_) (fun hg166 => ?_)
         ·
          refine d232 rfl ?_
          iterate 3 refine dS (wanted_f 166 (by kernel_rfl) rfl) (d232 rfl ?_)
          iterate 2 refine dN rfl rfl rfl (d232 rfl ?_)
          iterate 6 refine dS (wanted_f 171 (by kernel_rfl) rfl) (d232 rfl ?_)
          iterate 2 refine dN rfl rfl rfl (d232 rfl ?_)
          iterate 3 refine dS (wanted_f 179 (by kernel_rfl) rfl) (d232 rfl ?_)
          iterate 2 refine dN rfl rfl rfl (d232 rfl ?_)
          iterate 11 refine dS (wanted_f 184 (by kernel_rfl) rfl) (d232 rfl ?_)
          iterate 2 refine dN rfl rfl rfl (d232 rfl ?_)
          iterate 13 refine dS (wanted_f 197 (by kernel_rfl) rfl) (d232 rfl ?_)
          iterate 2 refine dN rfl rfl rfl (d232 rfl ?_)
          iterate 4 refine dS (wanted_f 212 (by kernel_rfl) rfl) (d232 rfl ?_)
          refine dN rfl rfl rfl (d232 rfl ?_)
          refine d_end rfl ?_
          refine vc_true rfl ?_
          refine vs (wr ?_)
          refine wN rfl rfl rfl (v232 rfl ?_)
          refine we rfl (vc_ret (r_then (r_block (r_then (r_then (r_block (r_then (r_fn rfl ?_))))))))
          have hr : (!refSBad b.types s && !twiceS (b.search.take i) s.name) = false := by
           have h1 : refSBad b.types s = true := by simp only [refSBad, hg166, Bool.true_or, Bool.or_true]
           rw [h1]; rfl
          have he := ref_noS hss hr
          show some (AV.bool false) = some (AV.bool (refOk b))
          rw [he]
         ·
          refine d232 rfl ?_
          refine dN (v := .ptr 1 0 1) (wanted_t 166 (by kernel_rfl) rfl) rfl rfl (d232 rfl ?_)
          iterate 2 refine dN (wanted_t 166 (by kernel_rfl) rfl) rfl rfl (d232 rfl ?_)
          iterate 2 refine dN rfl rfl rfl (d232 rfl ?_)
          refine d_split 171 rfl (fun hg171 => ?_) (fun hg171 => ?_)
          ·
           refine d232 rfl ?_
           iterate 6 refine dS (wanted_f 171 (by kernel_rfl) rfl) (d232 rfl ?_)
           iterate 2 refine dN rfl rfl rfl (d232 rfl ?_)
           iterate 3 refine dS (wanted_f 179 (by kernel_rfl) rfl) (d232 rfl ?_)
           iterate 2 refine dN rfl rfl rfl (d232 rfl ?_)
           iterate 11 refine dS (wanted_f 184 (by kernel_rfl) rfl) (d232 rfl ?_)
           iterate 2 refine dN rfl rfl rfl (d232 rfl ?_)
           iterate 13 refine dS (wanted_f 197 (by kernel_rfl) rfl) (d232 rfl ?_)
           iterate 2 refine dN rfl rfl rfl (d232 rfl ?_)
           iterate 4 refine dS (wanted_f 212 (by kernel_rfl) rfl) (d232 rfl ?_)
           refine dN rfl rfl rfl (d232 rfl ?_)
           refine d_end rfl ?_
           refine vc_true rfl ?_
           refine vs (wr ?_)
           refine wN rfl rfl rfl (v232 rfl ?_)
           refine we rfl (vc_ret (r_then (r_block (r_then (r_then (r_block (r_then (r_fn rfl ?_))))))))
           have hr : (!refSBad b.types s && !twiceS (b.search.take i) s.name) = false := by
            have h1 : refSBad b.types s = true := by simp only [refSBad, hg171, Bool.true_or, Bool.or_true]
            rw [h1]; rfl
           have he := ref_noS hss hr
           show some (AV.bool false) = some (AV.bool (refOk b))
           rw [he]
          ·
           refine d232 rfl ?_
           refine dN (v := .ptr 1 0 1) (wanted_t 171 (by kernel_rfl) rfl) rfl rfl (d232 rfl ?_)
           refine dN (wanted_t 171 (by kernel_rfl) rfl) rfl rfl (d232 rfl ?_)
           refine dN (v := .ptr 0 0 2) (wanted_t 171 (by kernel_rfl) rfl) rfl rfl (d232 rfl ?_)
           refine dN (wanted_t 171 (by kernel_rfl) rfl) rfl rfl (d232 rfl ?_)
           first | refine dN (wanted_t 171 (by kernel_rfl) rfl) rfl rfl (d232 rfl ?_) | refine y_len (wanted_t 171 (by kernel_rfl) rfl) rfl ‹_› Tryz.underlying22 rfl (d232 rfl ?_)
           refine dN (wanted_t 171 (by kernel_rfl) rfl) rfl rfl (d232 rfl ?_)
           iterate 2 refine dN rfl rfl rfl (d232 rfl ?_)
           refine d_split 179 rfl (fun hg179 => ?_) (fun hg179 => ?_)
           ·
            rw [hxl] at hg179
            refine d232 rfl ?_
            iterate 3 refine dS (wanted_f 179 (by kernel_rfl) rfl) (d232 rfl ?_)
            iterate 2 refine dN rfl rfl rfl (d232 rfl ?_)
            iterate 11 refine dS (wanted_f 184 (by kernel_rfl) rfl) (d232 rfl ?_)
            iterate 2 refine dN rfl rfl rfl (d232 rfl ?_)
            iterate 13 refine dS (wanted_f 197 (by kernel_rfl) rfl) (d232 rfl ?_)
            iterate 2 refine dN rfl rfl rfl (d232 rfl ?_)
            iterate 4 refine dS (wanted_f 212 (by kernel_rfl) rfl) (d232 rfl ?_)
            refine dN rfl rfl rfl (d232 rfl ?_)
            refine d_end rfl ?_
            refine vc_true rfl ?_
            refine vs (wr ?_)
            refine wN rfl rfl rfl (v232 rfl ?_)
            refine we rfl (vc_ret (r_then (r_block (r_then (r_then (r_block (r_then (r_fn rfl ?_))))))))
            have hr : (!refSBad b.types s && !twiceS (b.search.take i) s.name) = false := by
             have h1 : refSBad b.types s = true := by simp only [refSBad, hg179, Bool.true_or, Bool.or_true]
             rw [h1]; rfl
            have he := ref_noS hss hr
            show some (AV.bool false) = some (AV.bool (refOk b))
            rw [he]
           ·
            rw [hxl] at hg179
            have h0 : 0 ≤ s.type := by have := of_decide_eq_false hg171; omega
            obtain ⟨t, htt⟩ : ∃ t, b.types[s.type.toNat]? = some t := ⟨_, List.getElem?_eq_getElem (by have := of_decide_eq_false hg179; omega)⟩
            have hrt : (lrows b.tx)[s.type.toNat]? = some [.str t.name, .int .i64 t.parent, .int .i64 t.min, .int .i64 t.size, t.fx, .int .i64 t.key, .bool t.unique, .bool t.last] := by rw [hb.types.rows, List.getElem?_map, htt]; rfl
            have hti := hb.types.each t (List.mem_of_getElem? htt)
            have hfL := hti.fx.isL
            have hfl : (lrows t.fx).length = t.fields.length := by rw [hti.fx.rows]; simp
            refine d232 rfl ?_
            refine dN (v := .ptr 1 0 2) (wanted_t 179 (by kernel_rfl) rfl) rfl rfl (d232 rfl ?_)
            iterate 2 refine dN (wanted_t 179 (by kernel_rfl) rfl) rfl rfl (d232 rfl ?_)
            iterate 2 refine dN rfl rfl rfl (d232 rfl ?_)
            refine d_split 184 rfl (fun hg184 => ?_) (fun hg184 => ?_)
            ·
             refine d232 rfl ?_
             iterate 11 refine dS (wanted_f 184 (by kernel_rfl) rfl) (d232 rfl ?_)
             iterate 2 refine dN rfl rfl rfl (d232 rfl ?_)
             iterate 13 refine dS (wanted_f 197 (by kernel_rfl) rfl) (d232 rfl ?_)
             iterate 2 refine dN rfl rfl rfl (d232 rfl ?_)
             iterate 4 refine dS (wanted_f 212 (by kernel_rfl) rfl) (d232 rfl ?_)
             refine dN rfl rfl rfl (d232 rfl ?_)
             refine d_end rfl ?_
             refine vc_true rfl ?_
             refine vs (wr ?_)
             refine wN rfl rfl rfl (v232 rfl ?_)
             refine we rfl (vc_ret (r_then (r_block (r_then (r_then (r_block (r_then (r_fn rfl ?_))))))))
             have hr : (!refSBad b.types s && !twiceS (b.search.take i) s.name) = false := by
              have h2 : fieldBad b.types s = true := by simp only [fieldBad, htt, hg184, Bool.true_or, Bool.or_true]
              have h1 : refSBad b.types s = true := by simp only [refSBad, h2, Bool.true_or, Bool.or_true]
              rw [h1]; rfl
             have he := ref_noS hss hr
             show some (AV.bool false) = some (AV.bool (refOk b))
             rw [he]
            ·
             refine d232 rfl ?_
             refine dN (v := .ptr 1 0 2) (wanted_t 184 (by kernel_rfl) rfl) rfl rfl (d232 rfl ?_)
             refine dN (wanted_t 184 (by kernel_rfl) rfl) rfl rfl (d232 rfl ?_)
             refine dN (v := .ptr 0 0 2) (wanted_t 184 (by kernel_rfl) rfl) rfl rfl (d232 rfl ?_)
             refine dN (wanted_t 184 (by kernel_rfl) rfl) rfl rfl (d232 rfl ?_)
             refine dN (v := .ptr 1 0 1) (wanted_t 184 (by kernel_rfl) rfl) rfl rfl (d232 rfl ?_)
             refine dN (wanted_t 184 (by kernel_rfl) rfl) rfl rfl (d232 rfl ?_)
             first | refine dN (v := .iptr _ [_, _, _, _, _, _, _, _]) (wanted_t 184 (by kernel_rfl) rfl) rfl rfl (d232 rfl ?_) | (refine y_index (wanted_t 184 (by kernel_rfl) rfl) rfl ‹_› rfl el22 (by omega) ‹_› rfl (fun bo => ?_); refine d232 rfl ?_)
             refine dN (v := .iptr _ [_, _, _, _]) (wanted_t 184 (by kernel_rfl) rfl) rfl rfl (d232 rfl ?_)
             refine dN (wanted_t 184 (by kernel_rfl) rfl) rfl rfl (d232 rfl ?_)
             first | refine dN (wanted_t 184 (by kernel_rfl) rfl) rfl rfl (d232 rfl ?_) | refine y_len (wanted_t 184 (by kernel_rfl) rfl) rfl ‹_› Tryz.underlying60 rfl (d232 rfl ?_)
             refine dN (wanted_t 184 (by kernel_rfl) rfl) rfl rfl (d232 rfl ?_)
             iterate 2 refine dN rfl rfl rfl (d232 rfl ?_)
             refine d_split 197 rfl (fun hg197 => ?_) (fun hg197 => ?_)
             ·
              rw [hfl] at hg197
              refine d232 rfl ?_
              iterate 13 refine dS (wanted_f 197 (by kernel_rfl) rfl) (d232 rfl ?_)
              iterate 2 refine dN rfl rfl rfl (d232 rfl ?_)
              iterate 4 refine dS (wanted_f 212 (by kernel_rfl) rfl) (d232 rfl ?_)
              refine dN rfl rfl rfl (d232 rfl ?_)
              refine d_end rfl ?_
              refine vc_true rfl ?_
              refine vs (wr ?_)
              refine wN rfl rfl rfl (v232 rfl ?_)
              refine we rfl (vc_ret (r_then (r_block (r_then (r_then (r_block (r_then (r_fn rfl ?_))))))))
              have hr : (!refSBad b.types s && !twiceS (b.search.take i) s.name) = false := by
               have h2 : fieldBad b.types s = true := by simp only [fieldBad, htt, hg197, Bool.true_or, Bool.or_true]
               have h1 : refSBad b.types s = true := by simp only [refSBad, h2, Bool.true_or, Bool.or_true]
               rw [h1]; rfl
              have he := ref_noS hss hr
              show some (AV.bool false) = some (AV.bool (refOk b))
              rw [he]
             ·
              rw [hfl] at hg197
              have hf0 : 0 ≤ s.field := by have := of_decide_eq_false hg184; omega
              obtain ⟨f, hf⟩ : ∃ f, t.fields[s.field.toNat]? = some f := ⟨_, List.getElem?_eq_getElem (by have := of_decide_eq_false hg197; omega)⟩
              have hrf : (lrows t.fx)[s.field.toNat]? = some [.str f.name, .int .i64 f.at_, .int .i64 f.bytes] := by rw [hti.fx.rows, List.getElem?_map, hf]; rfl
              have hfbb : fieldBytes t s.field = f.bytes := by rw [fieldBytes, hf]
              refine d232 rfl ?_
              refine dN (v := .ptr 0 0 2) (wanted_t 197 (by kernel_rfl) rfl) rfl rfl (d232 rfl ?_)
              refine dN (wanted_t 197 (by kernel_rfl) rfl) rfl rfl (d232 rfl ?_)
              refine dN (v := .ptr 1 0 1) (wanted_t 197 (by kernel_rfl) rfl) rfl rfl (d232 rfl ?_)
              refine dN (wanted_t 197 (by kernel_rfl) rfl) rfl rfl (d232 rfl ?_)
              first | refine dN (v := .iptr _ [_, _, _, _, _, _, _, _]) (wanted_t 197 (by kernel_rfl) rfl) rfl rfl (d232 rfl ?_) | (refine y_index (wanted_t 197 (by kernel_rfl) rfl) rfl ‹_› rfl el22 (by omega) ‹_› rfl (fun bo => ?_); refine d232 rfl ?_)
              refine dN (v := .iptr _ [_, _, _, _]) (wanted_t 197 (by kernel_rfl) rfl) rfl rfl (d232 rfl ?_)
              refine dN (wanted_t 197 (by kernel_rfl) rfl) rfl rfl (d232 rfl ?_)
              refine dN (v := .ptr 1 0 2) (wanted_t 197 (by kernel_rfl) rfl) rfl rfl (d232 rfl ?_)
              refine dN (wanted_t 197 (by kernel_rfl) rfl) rfl rfl (d232 rfl ?_)
              first | refine dN (v := .iptr _ [_, _, _]) (wanted_t 197 (by kernel_rfl) rfl) rfl rfl (d232 rfl ?_) | (refine y_index (wanted_t 197 (by kernel_rfl) rfl) rfl ‹_› rfl el60 (by omega) ‹_› rfl (fun bo => ?_); refine d232 rfl ?_)
              refine dN (v := .iptr _ [_]) (wanted_t 197 (by kernel_rfl) rfl) rfl rfl (d232 rfl ?_)
              iterate 2 refine dN (wanted_t 197 (by kernel_rfl) rfl) rfl rfl (d232 rfl ?_)
              iterate 2 refine dN rfl rfl rfl (d232 rfl ?_)
              refine d_split 212 rfl (fun hg212 => ?_) (fun hg212 => ?_)
              ·
               refine d232 rfl ?_
               iterate 4 refine dS (wanted_f 212 (by kernel_rfl) rfl) (d232 rfl ?_)
               refine dN rfl rfl rfl (d232 rfl ?_)
               refine d_end rfl ?_
               refine vc_true rfl ?_
               refine vs (wr ?_)
               refine wN rfl rfl rfl (v232 rfl ?_)
               refine we rfl (vc_ret (r_then (r_block (r_then (r_then (r_block (r_then (r_fn rfl ?_))))))))
               have hr : (!refSBad b.types s && !twiceS (b.search.take i) s.name) = false := by
                have h2 : fieldBad b.types s = true := by simp only [fieldBad, htt, hfbb, hg212, Bool.true_or, Bool.or_true]
                have h1 : refSBad b.types s = true := by simp only [refSBad, h2, Bool.true_or, Bool.or_true]
                rw [h1]; rfl
               have he := ref_noS hss hr
               show some (AV.bool false) = some (AV.bool (refOk b))
               rw [he]
              ·
               refine d232 rfl ?_
               refine dN (v := .ptr 1 0 3) (wanted_t 212 (by kernel_rfl) rfl) rfl rfl (d232 rfl ?_)
               iterate 3 refine dN (wanted_t 212 (by kernel_rfl) rfl) rfl rfl (d232 rfl ?_)
               refine dN rfl rfl rfl (d232 rfl ?_)
               refine d_end rfl ?_
               refine vc_cond rfl (fun hc217 => ?_) (fun hc217 => ?_)
               ·
                refine vs (wr ?_)
                refine wN rfl rfl rfl (v232 rfl ?_)
                refine we rfl (vc_ret (r_then (r_block (r_then (r_then (r_block (r_then (r_fn rfl ?_))))))))
                have hr : (!refSBad b.types s && !twiceS (b.search.take i) s.name) = false := by
                 have h1 : refSBad b.types s = true := by simp only [refSBad, hc217, Bool.true_or, Bool.or_true]
                 rw [h1]; rfl
                have he := ref_noS hss hr
                show some (AV.bool false) = some (AV.bool (refOk b))
                rw [he]
               ·
                have hsb : refSBad b.types s = false := by simp only [refSBad, hg166, hg171, hg179, fieldBad, htt, hg184, hg197, hfbb, hg212, hc217, Bool.or_false]
                refine vc_skip (n_then (vs (wr ?_)))
                refine wN rfl rfl rfl (v232 rfl ?_)
                refine we rfl (vc_block ?_)
                refine vc_loopU (α := { k : Nat // (∀ j g, j < k → b.search[j]? = some g → seq g.name s.name = false) ∧ k ≤ i }) (fun k => ([none, none, some .undef] ++ (rnone 5 ++ ([some (.int .i64 (k.1 : Nat))] ++ (rnone 209 ++ (rundef 14)))))) (fun k => i - k.1) ⟨0, fun j g h => by omega, by omega⟩ (by repeat' first | exact trivial | refine ⟨.inr rfl, ?_⟩ | refine ⟨.inl rfl, ?_⟩ | fail) (fun _ => ⟨Nat.zero_le _, (by repeat' first | exact trivial | exact IsL.belowV ‹_› | refine ⟨?_, ?_⟩ | exact IsL.below ‹_› | (simp [valB, leafB, cellsB, IsL.below, *]; done) | (simp [valB, leafB, cellsB, IsL.below, *]; omega) | fail), (by repeat' first | exact trivial | exact IsL.below (by assumption) | refine ⟨?_, ?_⟩ | (simp [leafB]; done))⟩) ?_
                rintro ⟨k, hkn, hki⟩ Y3 hY3
                refine vc_norm (env' := (_ :: _ :: _ :: _ :: _ :: _ :: _ :: _ :: (.int .i64 (k : Int)) :: _ :: _ :: _ :: _ :: _ :: _ :: _ :: _ :: _ :: _ :: _ :: _ :: _ :: _ :: _ :: _ :: _ :: _ :: _ :: _ :: _ :: _ :: _ :: _ :: _ :: _ :: _ :: _ :: _ :: _ :: _ :: _ :: _ :: _ :: _ :: _ :: _ :: _ :: _ :: _ :: _ :: _ :: _ :: _ :: _ :: _ :: _ :: _ :: _ :: _ :: _ :: _ :: _ :: _ :: _ :: _ :: _ :: _ :: _ :: _ :: _ :: _ :: _ :: _ :: _ :: _ :: _ :: _ :: _ :: _ :: _ :: _ :: _ :: _ :: _ :: _ :: _ :: _ :: _ :: _ :: _ :: _ :: _ :: _ :: _ :: _ :: _ :: _ :: _ :: _ :: _ :: _ :: _ :: _ :: _ :: _ :: _ :: _ :: _ :: _ :: _ :: _ :: _ :: _ :: _ :: _ :: _ :: _ :: _ :: _ :: _ :: _ :: _ :: _ :: _ :: _ :: _ :: _ :: _ :: _ :: _ :: _ :: _ :: _ :: _ :: _ :: _ :: _ :: _ :: _ :: _ :: _ :: _ :: _ :: _ :: _ :: _ :: _ :: _ :: _ :: _ :: _ :: _ :: _ :: _ :: _ :: _ :: _ :: _ :: _ :: _ :: _ :: _ :: _ :: _ :: _ :: _ :: _ :: _ :: _ :: _ :: _ :: _ :: _ :: _ :: _ :: _ :: _ :: _ :: _ :: _ :: _ :: _ :: _ :: _ :: _ :: _ :: _ :: _ :: _ :: _ :: _ :: _ :: _ :: _ :: _ :: _ :: _ :: _ :: _ :: _ :: _ :: _ :: _ :: _ :: _ :: _ :: _ :: _ :: _ :: _ :: _ :: _ :: _ :: _ :: _ :: _ :: _ :: _ :: _ :: _ :: _ :: _ :: _ :: _ :: _ :: _ :: _ :: _ :: _ :: _ :: _ :: _ :: [])) (H' := [.arr 25 4 [[_, _, _, _]], .arr 136 4 [[_, _, _, _]]]) rfl rfl ?_
                refine vs (vs (wr ?_))
                iterate 3 refine wN rfl rfl rfl (v232 rfl ?_)
                refine we rfl ?_
                refine vc_cond rfl (fun hc220 => ?_) (fun hc220 => ?_)
                ·
                 have hlk : k < i := by have := of_decide_eq_true hc220; omega
                 obtain ⟨g, hg⟩ : ∃ g, b.search[k]? = some g := ⟨_, List.getElem?_eq_getElem (by omega)⟩
                 have hrk : (lrows b.sx)[k]? = some [.str g.name, .int .i64 g.type, .int .i64 g.field, .str g.sparse] := by rw [hb.search.rows, List.getElem?_map, hg]; rfl
                 refine vc_skip (n_then (vs (vc_block (vs (w_regionD (by kernel_rfl) ?_)))))
                 refine dN (v := .ptr 0 0 3) rfl rfl rfl (d232 rfl ?_)
                 iterate 2 refine dN rfl rfl rfl (d232 rfl ?_)
                 first | refine dN (v := .iptr _ [_, _, _, _]) rfl rfl rfl (d232 rfl ?_) | (refine y_index rfl rfl ‹_› rfl el23 (by omega) ‹_› rfl (fun bo => ?_); refine d232 rfl ?_)
                 refine dN (v := .iptr _ [_, _, _, _]) rfl rfl rfl (d232 rfl ?_)
                 refine dN rfl rfl rfl (d232 rfl ?_)
                 refine dN (v := .ptr 1 0 0) rfl rfl rfl (d232 rfl ?_)
                 iterate 2 refine dN rfl rfl rfl (d232 rfl ?_)
                 refine d_end rfl ?_
                 refine vc_cond rfl (fun hc231 => ?_) (fun hc231 => ?_)
                 ·
                  refine vs (wr ?_)
                  refine wN rfl rfl rfl (v232 rfl ?_)
                  refine we rfl (vc_ret (r_block (r_then (r_then (r_block (r_block (r_then (r_then (r_block (r_then (r_fn rfl ?_)))))))))))
                  have hr : (!refSBad b.types s && !twiceS (b.search.take i) s.name) = false := by rw [twiceS_yes hlk hg hc231]; simp
                  have he := ref_noS hss hr
                  show some (AV.bool false) = some (AV.bool (refOk b))
                  rw [he]
                 ·
                  refine vc_skip (n_block (n_then (wr ?_)))
                  iterate 3 refine wN rfl rfl rfl (v232 rfl ?_)
                  refine we rfl ?_
                  refine hY3 ⟨k + 1, fun j g' hj hg' => by by_cases hjk : j = k; subst hjk; rw [hg] at hg'; cases hg'; exact hc231; exact hkn j g' (by omega) hg', hlk⟩ (by simp only; omega) _ _ _ ?_ rfl
                  repeat' first | exact trivial | refine ⟨.inr rfl, ?_⟩ | refine ⟨.inl rfl, ?_⟩ | refine ⟨.inl ?_, ?_⟩ | fail
                  all_goals first | exact (int_succ (by omega)).symm
                ·
                 have htw : twiceS (b.search.take i) s.name = false := twiceS_no (fun j g hj hg => hkn j g (by have := of_decide_eq_false hc220; omega) hg)
                 refine vc_exit (x_then (x_then (x_same (n_block (n_then (wr ?_))))))
                 iterate 3 refine wN rfl rfl rfl (v232 rfl ?_)
                 refine we rfl ?_
                 refine hY2 ⟨i + 1, upto_all hn (by simp only [refSearchAt, hss, hsb, htw]; rfl), hlt⟩ (by simp only; omega) _ _ _ ?_ rfl
                 repeat' first | exact trivial | refine ⟨.inr rfl, ?_⟩ | refine ⟨.inl rfl, ?_⟩ | refine ⟨.inl ?_, ?_⟩ | fail
                 all_goals first | exact (int_succ (by omega)).symm
        ·
         have hge : ¬ i < b.search.length := by have := of_decide_eq_false hc154; omega
         have hAS := all_upto hn (n := b.search.length) (by omega)
         refine vc_exit (x_then (x_then (x_same (n_then (vs (wr ?_))))))
         refine wN rfl rfl rfl (v232 rfl ?_)
         refine we rfl (vc_ret (r_fn rfl ?_))
         show some (AV.bool true) = some (AV.bool (refOk b))
         rw [refOk, hhd, hAT, hAS]
         try rfl
end Go.Vi
namespace Go.Vi
theorem fieldOk_eq (size : Int) (f : PF) : fieldOkR size f = fieldOk size f := by
 rw [Bool.eq_iff_iff]
 simp only [fieldOk, fieldOkR, Bool.not_eq_true', Bool.or_eq_false_iff, decide_eq_false_iff_not]
 constructor
 · rintro ⟨⟨⟨⟨h1, h2⟩, h3⟩, h4⟩, h5⟩
   exact ⟨⟨⟨⟨h1, h2⟩, by omega⟩, h4⟩, h5⟩
 · rintro ⟨⟨⟨⟨h1, h2⟩, h3⟩, h4⟩, h5⟩
   exact ⟨⟨⟨⟨h1, h2⟩, by omega⟩, h4⟩, h5⟩
theorem fieldsAll_eq (fs : List PF) (size : Int) : fieldsAllR fs size = (List.range fs.length).all (fieldAt' fs size) := by
 unfold fieldsAllR
 congr 1
 funext i
 simp only [fieldAtR, fieldAt', fieldOk_eq]
 all_goals (cases fs[i]? <;> rfl)
theorem fieldsOk_eq (fs : List PF) (size : Int) : fieldsOk fs size = (fieldsAllR fs size && decide ((fs.length : Int) ≤ 5)) := by
 rw [fieldsOk, fieldsAll_eq]
 have h : decide (fs.length ≤ 5) = decide ((fs.length : Int) ≤ 5) := decide_eq_decide.2 (by omega)
 rw [h]
theorem type_eq (t : PT) : (!refTBad t) = typeOk t := by
 have key : refFields t = (fieldsOk t.fields t.size && (if t.key = -1 then !t.unique else if t.key < 0 ∨ t.key ≥ t.fields.length then false else keyOk t)) := by
  rw [refFields, fieldsOk_eq]
  generalize fieldsAllR t.fields t.size = A
  generalize hL : decide ((t.fields.length : Int) ≤ 5) = L
  by_cases h1 : t.key = -1
  · rw [if_pos h1]
    have e1 : decide (t.key < -1) = false := decide_eq_false (by omega)
    have e2 : decide (t.key ≥ (t.fields.length : Int)) = false := decide_eq_false (by omega)
    have e3 : decide (t.key < 0) = true := decide_eq_true (by omega)
    rw [e1, e2, e3]
    cases A <;> cases L <;> cases t.unique <;> rfl
  · rw [if_neg h1]
    by_cases h2 : t.key < 0
    · rw [if_pos (.inl h2)]
      have e1 : decide (t.key < -1) = true := decide_eq_true (by omega)
      rw [e1]
      cases A <;> cases L <;> rfl
    · by_cases h3 : t.key ≥ (t.fields.length : Int)
      · rw [if_pos (.inr h3)]
        have e2 : decide (t.key ≥ (t.fields.length : Int)) = true := decide_eq_true h3
        rw [e2, Bool.or_true]
        cases A <;> cases L <;> rfl
      · rw [if_neg (by omega)]
        have e1 : decide (t.key < -1) = false := decide_eq_false (by omega)
        have e2 : decide (t.key ≥ (t.fields.length : Int)) = false := decide_eq_false h3
        have e3 : decide (t.key < 0) = false := decide_eq_false h2
        rw [e1, e2, e3]
        cases A <;> cases L <;> cases keyOk t <;> rfl
 rw [refTBad, typeOk, typeHead, key]
 generalize (!isName t.name || decide (t.min < 1) || decide (t.min > t.size) || decide (t.size > 40)) = a
 generalize fieldsOk t.fields t.size = b
 generalize (if t.key = -1 then !t.unique else if t.key < 0 ∨ t.key ≥ t.fields.length then false else keyOk t) = c
 cases a <;> cases b <;> cases c <;> rfl
theorem way_mem {ts : List PT} {n : Nat} (hU : Ups ts n) (hn : n ≤ ts.length) : ∀ (m : Nat) (t : Int), t.toNat ≤ m → t < n → ∀ x ∈ way ts t, 0 ≤ x ∧ x ≤ t
 | m, t, hm, ht, x, hx => by
   by_cases h0 : t < 0
   · rw [way_neg h0] at hx; cases hx
   · have hp := parent_lt hU hn (by omega) ht
     rw [way_step hU hn (by omega) ht] at hx
     rcases List.mem_cons.1 hx with rfl | hx
     · omega
     · match m, hm with
       | 0, hm =>
         have : t = 0 := by omega
         rw [way_neg (by omega)] at hx
         cases hx
       | m + 1, hm =>
         have := way_mem hU hn m (parentOf ts t) (by omega) (by omega) x hx
         omega
theorem way_split {ts : List PT} {n : Nat} (hU : Ups ts n) (hn : n ≤ ts.length) : ∀ (m : Nat) (t p : Int), t.toNat ≤ m → t < n → p ∈ way ts t → ∃ pre, way ts t = pre ++ way ts p ∧ ∀ x ∈ pre, p < x
 | m, t, p, hm, ht, hp => by
   by_cases h0 : t < 0
   · rw [way_neg h0] at hp; cases hp
   · have hpar := parent_lt hU hn (by omega) ht
     have hw := way_step hU hn (by omega) ht
     rw [hw] at hp
     rcases List.mem_cons.1 hp with rfl | hp
     · exact ⟨[], rfl, fun x hx => by cases hx⟩
     · match m, hm with
       | 0, hm =>
         rw [way_neg (by omega)] at hp
         cases hp
       | m + 1, hm =>
         obtain ⟨pre, h1, h2⟩ := way_split hU hn m (parentOf ts t) p (by omega) (by omega) hp
         have hle := way_mem hU hn _ (parentOf ts t) (Nat.le_refl _) (by omega) p hp
         refine ⟨t :: pre, by rw [hw, h1]; rfl, fun x hx => ?_⟩
         rcases List.mem_cons.1 hx with rfl | hx
         · omega
         · exact h2 x hx
theorem intIs_at {ws : List Int} {v : Int} : wayAt ws v = match ws.findIdx? (fun w => v == w) with
 | some i => (i : Int)
 | none => -1 := by
 unfold wayAt fidx
 have : (wrows ws).findIdx? (intIs v) = ws.findIdx? (fun w => v == w) := by
  rw [wrows, List.findIdx?_map]
  rfl
 rw [this]
 cases ws.findIdx? (fun w => v == w) <;> rfl
theorem wayAt_in {ws : List Int} {v : Int} (pre post : List Int) (h : ws = pre ++ v :: post) (hp : ∀ x ∈ pre, x ≠ v) : wayAt ws v = (pre.length : Int) := by
 rw [intIs_at]
 have : ws.findIdx? (fun w => v == w) = some pre.length := by
  subst h
  rw [List.findIdx?_append]
  have : pre.findIdx? (fun w => v == w) = none := by
   rw [List.findIdx?_eq_none_iff]
   intro x hx
   have := hp x hx
   simpa using fun e => this e.symm
  rw [this]
  simp [List.findIdx?_cons]
 rw [this]
theorem wayAt_out {ws : List Int} {v : Int} (h : v ∉ ws) : wayAt ws v = -1 := by
 rw [intIs_at]
 have : ws.findIdx? (fun w => v == w) = none := by
  rw [List.findIdx?_eq_none_iff]
  intro x hx
  simp only [beq_eq_false_iff_ne]
  intro e
  exact h (by rw [e]; exact hx)
 rw [this]
def soFar (ts : List PT) (i : Nat) : List Int := if i = 0 then [] else (way ts ((i - 1 : Nat) : Int)).reverse
theorem step_eq {ts : List PT} {i : Nat} {t : PT} (hU : Ups ts i) (ht : ts[i]? = some t) : stepT ts i (soFar ts i) t = if refType ts i t = true then some (soFar ts (i + 1)) else none := by
 have hlt := (List.getElem?_eq_some_iff.1 ht).1
 have hile : i ≤ ts.length := by omega
 have hpo : parentOf ts (i : Int) = t.parent := by simp only [parentOf, Int.toNat_natCast, ht]
 have hso : soFar ts (i + 1) = (way ts (i : Int)).reverse := by simp [soFar]
 unfold stepT
 rw [refType, type_eq]
 by_cases hok : (typeOk t && !twiceT (ts.take i) t.name) = true
 · rw [if_pos hok, hok, Bool.true_and]
   by_cases h0 : i = 0
   · rw [if_pos h0, if_pos h0]
     cases hr : rootBad t
     · simp only [Bool.false_eq_true, if_false, Bool.not_false, if_true]
       have hpar : t.parent = -1 := by
        simp only [rootBad, Bool.or_eq_false_iff, bne_eq_false_iff_eq] at hr
        exact hr.1.1.1
       have hU1 := ups_succ hU ht (by omega) (by omega)
       have hw : way ts (i : Int) = [(i : Int)] := by
        rw [way_step hU1 hlt (by omega) (by omega), hpo, hpar, way_neg (by omega)]
       have hs : soFar ts i = [] := by simp [soFar, h0]
       have ha : wayAt (soFar ts i) t.parent = -1 := by rw [hs]; exact wayAt_out (by simp)
       rw [ha, hs, hso, hw]
       simp
     · simp
   · rw [if_neg h0, if_neg h0]
     have hs : soFar ts i = (way ts ((i - 1 : Nat) : Int)).reverse := by simp [soFar, h0]
     have hw1 := way_step hU hile (t := ((i - 1 : Nat) : Int)) (by omega) (by omega)
     by_cases hmem : t.parent ∈ way ts ((i - 1 : Nat) : Int)
     · have hb := way_mem hU hile _ _ (Nat.le_refl _) (show ((i - 1 : Nat) : Int) < i by omega) _ hmem
       have hU1 := ups_succ hU ht (by omega) (by omega)
       obtain ⟨pre, hpre, hgt⟩ := way_split hU hile _ _ _ (Nat.le_refl _) (show ((i - 1 : Nat) : Int) < i by omega) hmem
       have hwp := way_step hU hile (t := t.parent) (by omega) (by omega)
       have hpp := parent_lt hU hile (t := t.parent) (by omega) (by omega)
       have hsr : soFar ts i = (way ts (parentOf ts t.parent)).reverse ++ t.parent :: pre.reverse := by
        rw [hs, hpre, hwp]; simp
       have ha : wayAt (soFar ts i) t.parent = ((way ts (parentOf ts t.parent)).reverse.length : Int) := wayAt_in _ _ hsr fun x hx e => by
        have := way_mem hU hile _ _ (Nat.le_refl _) (show parentOf ts t.parent < i by omega) x (List.mem_reverse.1 hx)
        omega
       have hwi : way ts (i : Int) = (i : Int) :: t.parent :: way ts (parentOf ts t.parent) := by
        rw [way_step hU1 hlt (by omega) (by omega), hpo, hwp]
       have hlen : (way ts (i : Int)).length = (way ts (parentOf ts t.parent)).length + 1 + 1 := by rw [hwi]; simp
       have htk : (soFar ts i).take ((way ts (parentOf ts t.parent)).length + 1) = (way ts (parentOf ts t.parent)).reverse ++ [t.parent] := by
        rw [hsr, show (way ts (parentOf ts t.parent)).length + 1 = ((way ts (parentOf ts t.parent)).reverse ++ [t.parent]).length by simp, show (way ts (parentOf ts t.parent)).reverse ++ t.parent :: pre.reverse = ((way ts (parentOf ts t.parent)).reverse ++ [t.parent]) ++ pre.reverse by simp, List.take_left]
       have hm : (wayAt (soFar ts i) t.parent + 1).toNat = (way ts (parentOf ts t.parent)).length + 1 := by rw [ha]; simp
       rw [hm, if_neg (by rw [ha]; simp)]
       have hup : upBad ts i t = decide (((way ts (i : Int)).length : Int) > 5) := by
        have e1 : decide (t.parent < 0) = false := decide_eq_false (by omega)
        have e2 : decide (t.parent ≥ (i : Int)) = false := decide_eq_false (by omega)
        have e3 : ((t.parent != ((i - 1 : Nat) : Int)) && !(way ts (parentOf ts ((i - 1 : Nat) : Int))).contains t.parent) = false := by
         rw [hw1] at hmem
         rcases List.mem_cons.1 hmem with he | he
         · rw [show (t.parent != ((i - 1 : Nat) : Int)) = false by rw [he]; simp]; rfl
         · rw [List.contains_iff_mem.2 he]; simp
        rw [upBad, e1, e2, e3]
        rfl
       rw [hup]
       by_cases h5 : (way ts (i : Int)).length > 5
       · rw [if_pos (by omega), decide_eq_true (by omega)]
         rfl
       · rw [if_neg (by omega), decide_eq_false (by omega), htk, hso, hwi]
         simp
     · have ha : wayAt (soFar ts i) t.parent = -1 := by rw [hs]; exact wayAt_out (fun h => hmem (List.mem_reverse.1 h))
       rw [if_pos (by rw [ha]; rfl)]
       have hup : upBad ts i t = true := by
        by_cases h1 : t.parent < 0
        · rw [upBad, decide_eq_true h1]; rfl
        · by_cases h2 : t.parent ≥ (i : Int)
          · rw [upBad, decide_eq_true h2]; simp
          · have e3 : ((t.parent != ((i - 1 : Nat) : Int)) && !(way ts (parentOf ts ((i - 1 : Nat) : Int))).contains t.parent) = true := by
             rw [hw1] at hmem
             simp only [List.mem_cons, not_or] at hmem
             have c : (way ts (parentOf ts ((i - 1 : Nat) : Int))).contains t.parent = false := by
              rw [Bool.eq_false_iff]
              exact fun h => hmem.2 (List.contains_iff_mem.1 h)
             rw [c]
             simpa using hmem.1
            rw [upBad, e3]; simp
       rw [hup]
       rfl
 · rw [if_neg hok, Bool.eq_false_iff.2 hok]
   rfl
theorem types_eq (ts : List PT) : ∀ (m i : Nat), i + m = ts.length → (∀ j, j < i → refTypeAt ts j = true) → typesFrom ts i (soFar ts i) (ts.drop i) = (List.range' i m).all (refTypeAt ts)
 | 0, i, hm, hn => by
   rw [List.drop_of_length_le (by omega)]
   rfl
 | m + 1, i, hm, hn => by
   obtain ⟨t, ht⟩ : ∃ t, ts[i]? = some t := ⟨_, List.getElem?_eq_getElem (by omega)⟩
   rw [drop_at' ht]
   simp only [typesFrom, step_eq (ups_of hn) ht, List.range'_succ, List.all_cons]
   have hat : refTypeAt ts i = refType ts i t := by simp only [refTypeAt, ht]
   rw [hat]
   cases hr : refType ts i t
   · simp
   · simp only [if_true, Bool.true_and]
     exact types_eq ts m (i + 1) (by omega) (upto_all hn (by rw [hat, hr]))
theorem search_eq (ts : List PT) (ss : List PS) : (List.range ss.length).all (searchAt ts ss) = (List.range ss.length).all (refSearchAt ts ss) := by
 congr 1
 funext i
 simp only [searchAt, refSearchAt]
 cases ss[i]? with
 | none => rfl
 | some s =>
   simp only [searchBad, refSBad]
   cases isName s.name <;> cases decide (s.type < 0) <;> cases decide (s.type ≥ (ts.length : Int)) <;> cases decide ((s.sparse.size : Int) > 1) <;> cases twiceS (ss.take i) s.name <;> cases fieldBad ts s <;> rfl
theorem valid_eq (b : PB) : baseOk b = refOk b := by
 have ht : typesFrom b.types 0 [] b.types = (List.range b.types.length).all (refTypeAt b.types) := by
  have := types_eq b.types b.types.length 0 (by omega) (fun j h => by omega)
  rw [List.range_eq_range']
  exact this
 rw [baseOk, refOk, typesOk, indexesOk, refHead, search_eq, ht]
 have e1 : decide (b.kind ≥ 1) = !decide (b.kind < 1) := by
  rw [Bool.eq_iff_iff]; simp
 have e2 : decide (b.kind ≤ 4) = !decide (b.kind > 4) := by
  rw [Bool.eq_iff_iff]; simp
 have e3 : decide ((b.search.length : Int) ≤ 3) = !decide ((b.search.length : Int) > 3) := by
  rw [Bool.eq_iff_iff]; simp
 rw [e1, e2, e3]
 generalize isName b.name = a1
 generalize decide (b.kind < 1) = a2
 generalize decide (b.kind > 4) = a3
 generalize decide ((b.types.length : Int) < 1) = a4
 generalize decide ((b.types.length : Int) > 8) = a5
 generalize decide ((b.search.length : Int) > 3) = a6
 generalize (List.range b.types.length).all (refTypeAt b.types) = a7
 generalize (List.range b.search.length).all (refSearchAt b.types b.search) = a8
 cases a1 <;> cases a2 <;> cases a3 <;> cases a4 <;> cases a5 <;> cases a6 <;> cases a7 <;> cases a8 <;> rfl
end Go.Vi
namespace Go.Vi
open Go Go.Vi Go.Proofs
attribute [local irreducible] vops vopsD vc
structure BaseV (b : PB) : Prop extends BaseIs b where
 txv : b.tx.isVal = true
 sxv : b.sx.isVal = true
def badT (b : PB) (t : Int) : Bool := decide (t < 0) || decide (t ≥ (b.types.length : Int))
def askedE (b : PB) (ws : List Int) : Int := if baseOk b = true then (if ws.any (badT b) = true then 2 else 0) else 100
def intP (p : Int → Bool) (r : List AV) : Bool := match r with
 | [.int _ w] => p w
 | _ => false
theorem any_intP {p : Int → Bool} {ws : List Int} : (wrows ws).any (intP p) = ws.any p := by
 simp only [wrows, List.any_map]
 rfl
theorem base_ups {b : PB} (h : baseOk b = true) : Ups b.types b.types.length ∧ b.types.length ≤ 8 := by
 rw [valid_eq] at h
 simp only [refOk, Bool.and_eq_true] at h
 refine ⟨ups_of fun j hj => List.all_eq_true.1 h.1.2 j (List.mem_range.2 hj), ?_⟩
 have h1 := h.1.1
 simp only [refHead, Bool.not_eq_true', Bool.or_eq_false_iff, decide_eq_false_iff_not] at h1
 omega
theorem getD_at {l : List Int} {i : Nat} (h : i < l.length) : l.getD i 0 = l[i] := by simp [List.getD, h]
theorem set_get {α : Type} {l : List α} {i : Nat} {x : α} (h : l[i]? = some x) : l.set i x = l := by
 obtain ⟨h1, h2⟩ := List.getElem?_eq_some_iff.1 h
 rw [← h2]; simp
theorem g_indexN {P : Program} {H : Hp} {t T e : TypeId} {b : Bool} {l m sz k' : Nat} {rows : List (List AV)} {k : IntKind} {n : Int} (he : elemAt P t = some (none, e, sz)) (h1 : H[l]? = some (.arr T sz rows)) (h0 : 0 ≤ n) (hn : n < m) (hk : n.toNat = k') :
 (vindexAddr P H t (.row b l 0 m) (.int k n)).map (·, H) = some (.ptr l k' 0, H) := by
 rw [g_index0 he h1 h0 hn, hk]
def swp (ws : List Int) (i : Nat) : List Int := ws.mapIdx fun j w => if j < i ∨ ws.length ≤ j + i then ws.getD (ws.length - 1 - j) 0 else w
theorem swp_len {ws : List Int} {i : Nat} : (swp ws i).length = ws.length := by simp [swp]
theorem swp_zero {ws : List Int} : swp ws 0 = ws := by
 apply List.ext_getElem
 · exact swp_len
 · intro j h1 h2
   simp only [swp, List.getElem_mapIdx]
   rw [if_neg (by omega)]
theorem swp_done {ws : List Int} {i : Nat} (h : ws.length ≤ 2 * i + 1) : swp ws i = ws.reverse := by
 apply List.ext_getElem
 · simp [swp_len]
 · intro j h1 h2
   have hj : j < ws.length := by simpa using h2
   simp only [swp, List.getElem_mapIdx, List.getElem_reverse]
   split
   · rw [getD_at (by omega)]
   · congr 1
     omega
theorem swp_at {ws : List Int} {i j : Nat} {w : Int} (h1 : i ≤ j) (h2 : j + i < ws.length) (hw : ws[j]? = some w) : (swp ws i)[j]? = some w := by
 obtain ⟨h, rfl⟩ := List.getElem?_eq_some_iff.1 hw
 rw [List.getElem?_eq_getElem (by rw [swp_len]; omega)]
 simp only [swp, List.getElem_mapIdx]
 rw [if_neg (by omega)]
theorem swp_step {ws : List Int} {i : Nat} {a z : Int} (h : 2 * i + 1 < ws.length) (ha : ws[i]? = some a) (hz : ws[ws.length - 1 - i]? = some z) : ((swp ws i).set i z).set (ws.length - 1 - i) a = swp ws (i + 1) := by
 obtain ⟨_, rfl⟩ := List.getElem?_eq_some_iff.1 ha
 obtain ⟨_, rfl⟩ := List.getElem?_eq_some_iff.1 hz
 apply List.ext_getElem
 · simp [swp_len]
 · intro j h1 h2
   have hj : j < ws.length := by simpa [swp_len] using h2
   rw [List.getElem_set, List.getElem_set]
   simp only [swp, List.getElem_mapIdx]
   by_cases e1 : ws.length - 1 - i = j
   · subst e1
     rw [if_pos rfl, if_pos (by omega), getD_at (by omega)]
     congr 1
     omega
   · rw [if_neg e1]
     by_cases e2 : i = j
     · subst e2
       rw [if_pos rfl, if_pos (by omega), getD_at (by omega)]
     · rw [if_neg e2]
       by_cases e3 : j < i ∨ ws.length ≤ j + i
       · rw [if_pos e3, if_pos (by omega)]
       · rw [if_neg e3, if_neg (by omega)]
theorem wrows_set {ws : List Int} {i : Nat} {w : Int} : (wrows ws).set i [.int .i64 w] = wrows (ws.set i w) := by
 simp [wrows, List.map_set]
theorem wrows_at {ws : List Int} {i : Nat} {w : Int} (h : ws[i]? = some w) : (wrows ws)[i]? = some [.int .i64 w] := by
 rw [wrows, List.getElem?_map, h]; rfl
def depthE (b : PB) (t : Int) : Int × Int := if askedE b [t] = 0 then (((way b.types t).length : Int), 0) else (0, askedE b [t])
theorem asked_ok {b : PB} {t : Int} (h : askedE b [t] = 0) : baseOk b = true ∧ 0 ≤ t ∧ t < b.types.length := by
 unfold askedE at h
 split at h
 · rename_i h1
   split at h
   · cases h
   · rename_i h2
     simp [badT] at h2
     exact ⟨h1, by omega, by omega⟩
 · cases h
theorem way_len {ts : List PT} {n : Nat} (hU : Ups ts n) (hn : n ≤ ts.length) : ∀ (m : Nat) (t : Int), t.toNat ≤ m → t < n → (way ts t).length ≤ (t + 1).toNat
 | m, t, hm, ht => by
   by_cases h0 : t < 0
   · rw [way_neg h0]; simp
   · have hp := parent_lt hU hn (by omega) ht
     rw [way_step hU hn (by omega) ht]
     match m, hm with
     | 0, hm =>
       rw [way_neg (by omega)]
       simp
       omega
     | m + 1, hm =>
       have := way_len hU hn m (parentOf ts t) (by omega) (by omega)
       simp only [List.length_cons]
       omega
set_option maxHeartbeats 4000000 in
theorem zBadT (G : Glob) (b : PB) (hb : BaseV b) (t : Int) (bo : Bool) : Vi.Fn Tryz.prog G 115 [.int .i64 t, .iptr bo (encB b)] (.bool (badT b t)) := by
 have hL := hb.types.isL
 have hLs := hb.search.isL
 have htv := hb.txv
 have hsv := hb.sxv
 have hxl : (lrows b.tx).length = b.types.length := by rw [hb.types.rows]; simp
 refine fn_body (fun _ => .iso) Tryz.func115 rfl ?_
 refine vc_norm (env' := [_, _, _, _, _, _, _, _, _, _, _, _, _]) (H' := []) rfl rfl ?_
 refine vs (wr ?_)
 refine wN rfl rfl rfl (v13 rfl ?_)
 refine we rfl (vs (wr ?_))
 iterate 3 refine wN rfl rfl rfl (v13 rfl ?_)
 refine w_split 6 rfl (fun hg6 => ?_) (fun hg6 => ?_)
 ·
  refine v13 rfl ?_
  iterate 5 refine wS (wanted_f 6 (by kernel_rfl) rfl) (v13 rfl ?_)
  iterate 2 refine wN rfl rfl rfl (v13 rfl ?_)
  refine we rfl (vc_ret (r_fn rfl ?_))
  show some (AV.bool true) = some (AV.bool (badT b t))
  rw [badT, hg6]
  rfl
 ·
  refine v13 rfl ?_
  refine wN (wanted_t 6 (by kernel_rfl) rfl) rfl rfl (v13 rfl ?_)
  refine wN (v := .iptr _ [_, _]) (wanted_t 6 (by kernel_rfl) rfl) rfl rfl (v13 rfl ?_)
  refine wN (wanted_t 6 (by kernel_rfl) rfl) rfl rfl (v13 rfl ?_)
  first | refine wN (wanted_t 6 (by kernel_rfl) rfl) rfl rfl (v13 rfl ?_) | refine x_len (wanted_t 6 (by kernel_rfl) rfl) rfl ‹_› Tryz.underlying22 rfl (v13 rfl ?_)
  refine wN (wanted_t 6 (by kernel_rfl) rfl) rfl rfl (v13 rfl ?_)
  iterate 2 refine wN rfl rfl rfl (v13 rfl ?_)
  refine we rfl (vc_ret (r_fn rfl ?_))
  show some (AV.bool (decide (t ≥ ((lrows b.tx).length : Int)))) = some (AV.bool (badT b t))
  rw [badT, hg6, Bool.false_or, hxl]
set_option maxHeartbeats 4000000 in
theorem zIdxI (G : Glob) (x : AV) (ws : List Int) (g : Nat) (caps : List AV) (p : Int → Bool) (hL : IsL x) (hr : lrows x = wrows ws) (hlen : ws.length < 9223372036854775808) (hcl : mapL (lend0 []) caps = some caps) (he : enterOk Tryz.prog g = true) (hp : ∀ w ∈ ws, Vi.Fn Tryz.prog G g (.int .i64 w :: caps) (.bool (p w))) : Vi.Fn Tryz.prog G 98 [x, .clo g caps] (.int .i64 (fidx (intP p) (wrows ws))) := by
 have hxl : (lrows x).length = ws.length := by rw [hr]; simp [wrows]
 refine fn_body (fun _ => .iso) Tryz.func98 rfl ?_
 refine vc_norm (env' := [_, _, _, _, _, _, _, _, _, _, _, _, _, _, _, _, _, _, _]) (H' := []) rfl rfl ?_
 refine vs (wr ?_)
 refine wN rfl rfl rfl (v19 rfl ?_)
 refine we rfl (vs (vs (wr ?_)))
 refine wN rfl rfl rfl (v19 rfl ?_)
 first | refine wN rfl rfl rfl (v19 rfl ?_) | refine x_len rfl rfl ‹_› Tryz.underlying35 rfl (v19 rfl ?_)
 refine wN rfl rfl rfl (v19 rfl ?_)
 refine we rfl (vc_block ?_)
 refine vc_loopU (α := { i : Nat // (∀ j r, j < i → (wrows ws)[j]? = some r → intP p r = false) ∧ i ≤ ws.length }) (fun i => (rnone 4 ++ ([some .undef, some .undef, none, none, some (.int .i64 (i.1 : Nat))] ++ (rundef 10)))) (fun i => ws.length - i.1) ⟨0, fun j r h => by omega, by omega⟩ (by repeat' first | exact trivial | refine ⟨.inr rfl, ?_⟩ | refine ⟨.inl rfl, ?_⟩ | fail) (fun _ => ⟨Nat.zero_le _, (by repeat' first | exact trivial | exact (cellsB_lent hcl) | exact IsL.belowV ‹_› | refine ⟨?_, ?_⟩ | exact IsL.below ‹_› | (simp [valB, leafB, cellsB, IsL.below, *]; done) | (simp [valB, leafB, cellsB, IsL.below, *]; omega) | fail), (by repeat' first | exact trivial | exact IsL.below (by assumption) | refine ⟨?_, ?_⟩ | (simp [leafB]; done))⟩) ?_
 rintro ⟨i, hn, hi⟩ Y0 hY0
 refine vc_norm (env' := [_, _, _, _, _, _, _, _, .int .i64 (i : Int), _, _, _, _, _, _, _, _, _, _]) (H' := []) rfl rfl ?_
 refine vs (wr ?_)
 refine wN rfl rfl rfl (v19 rfl ?_)
 refine we rfl (vs ?_)
 refine vc_cond rfl (fun hc9 => ?_) (fun hc9 => ?_)
 ·
  have hlt : i < ws.length := by have := of_decide_eq_true hc9; omega
  obtain ⟨w, hw⟩ : ∃ w, ws[i]? = some w := ⟨_, List.getElem?_eq_getElem hlt⟩
  have hrw : (wrows ws)[i]? = some [.int .i64 w] := wrows_at hw
  have hri : (lrows x)[i]? = some [.int .i64 w] := by rw [hr]; exact hrw
  have hF := hp w (List.mem_of_getElem? hw)
  refine vc_skip (n_then (vs (vc_block (vs (wr ?_)))))
  iterate 2 refine wN rfl rfl rfl (v19 rfl ?_)
  refine we rfl (vs (wr ?_))
  iterate 3 refine wN rfl rfl rfl (v19 rfl ?_)
  first | refine wN (v := .iptr _ [_]) rfl rfl rfl (v19 rfl ?_) | (refine x_index rfl rfl ‹_› rfl el35 (by omega) ‹_› rfl (fun bo => ?_); refine v19 rfl ?_)
  refine wN rfl rfl rfl (v19 rfl ?_)
  refine w_callI (env' := _) rfl rfl rfl he rfl (mapL_cons rfl (lends_of0 hcl)) (hF) rfl (v19 rfl ?_)
  refine we rfl ?_
  refine vc_cond rfl (fun hc16 => ?_) (fun hc16 => ?_)
  ·
   refine vs (wr ?_)
   iterate 2 refine wN rfl rfl rfl (v19 rfl ?_)
   refine we rfl (vc_ret (r_block (r_then (r_then (r_block (r_then (r_fn rfl ?_)))))))
   show some (AV.int .i64 (i : Int)) = _
   rw [fidx_at hn hrw hc16]
  ·
   refine vc_skip (n_block (n_then (wr ?_)))
   iterate 2 refine wN rfl rfl rfl (v19 rfl ?_)
   refine we rfl ?_
   refine hY0 ⟨i + 1, upto_succ hn hrw hc16, hlt⟩ (by simp only; omega) _ _ _ ?_ rfl
   repeat' first | exact trivial | refine ⟨.inr rfl, ?_⟩ | refine ⟨.inl rfl, ?_⟩ | refine ⟨.inl ?_, ?_⟩ | fail
   all_goals first | exact (int_succ (by omega)).symm
 ·
  have hge : ¬ i < ws.length := by have := of_decide_eq_false hc9; omega
  refine vc_exit (x_then (x_then (x_same (n_then (vs (wr ?_))))))
  refine wN rfl rfl rfl (v19 rfl ?_)
  refine we rfl (vc_ret (r_fn rfl ?_))
  show some (AV.int .i64 (-1)) = _
  rw [fidx_no hn (by simp [wrows]; omega)]
set_option maxHeartbeats 4000000 in
theorem zHasI (G : Glob) (x : AV) (ws : List Int) (g : Nat) (caps : List AV) (p : Int → Bool) (hL : IsL x) (hr : lrows x = wrows ws) (hlen : ws.length < 9223372036854775808) (hcl : mapL (lend0 []) caps = some caps) (he : enterOk Tryz.prog g = true) (hp : ∀ w ∈ ws, Vi.Fn Tryz.prog G g (.int .i64 w :: caps) (.bool (p w))) : Vi.Fn Tryz.prog G 67 [x, .clo g caps] (.bool (ws.any p)) := by
 have hclo : lend [] (.clo g caps) = some (.clo g caps) := lend_clo hcl
 refine fn_body (fun _ => .iso) Tryz.func67 rfl ?_
 refine vc_norm (env' := [_, _, _, _, _, _, _, _, _]) (H' := []) rfl rfl ?_
 refine vs (wr ?_)
 refine wN rfl rfl rfl (v9 rfl ?_)
 refine we rfl (vs (wr ?_))
 iterate 2 refine wN rfl rfl rfl (v9 rfl ?_)
 refine w_callI (env' := _) rfl rfl rfl (by kernel_rfl) rfl (mapL_cons hL.lend (mapL_cons hclo rfl)) (zIdxI G x ws g caps p hL hr hlen hcl he hp) rfl (v9 rfl ?_)
 iterate 2 refine wN rfl rfl rfl (v9 rfl ?_)
 refine we rfl (vc_ret (r_fn rfl ?_))
 show some (AV.bool (decide (fidx (intP p) (wrows ws) ≥ 0))) = _
 rw [fidx_ge, any_intP]
set_option maxHeartbeats 4000000 in
theorem zAsked (G : Glob) (b : PB) (hb : BaseV b) (x : AV) (ws : List Int) (hL0 : IsL x) (hr : lrows x = wrows ws) (hlen : ws.length < 9223372036854775808) : Vi.Fn Tryz.prog G 81 [.agg (encB b), x] (.int .i64 (askedE b ws)) := by
 have hL := hb.types.isL
 have hLs := hb.search.isL
 have htv := hb.txv
 have hsv := hb.sxv
 have hxl : (lrows b.tx).length = b.types.length := by rw [hb.types.rows]; simp
 have hcont := zHasI G x ws 115 [.iptr true [.str b.name, .int .i64 b.kind, b.tx, b.sx]] (badT b) hL0 hr hlen rfl (by kernel_rfl) (fun w hw => zBadT G b hb w true)
 refine fn_body (fun _ => .iso) Tryz.func81 rfl ?_
 refine vc_norm (env' := [_, _, _, _, _, _, _, _, _, _, _, _, _]) (H' := []) rfl rfl ?_
 refine vs (wr ?_)
 refine w_opH (v := .ptr 0 0 0) (env' := _) (H2 := [.arr 25 4 [[_, _, _, _]]]) rfl rfl rfl rfl (fun _ h => h) (v13 rfl ?_)
 refine wN rfl rfl rfl (v13 rfl ?_)
 refine we rfl (vs (vc_block (vs (wr ?_))))
 refine wN (v := .agg [_, _, _, _]) rfl rfl rfl (v13 rfl ?_)
 refine w_callI (env' := _) rfl rfl rfl (by kernel_rfl) rfl (by repeat' first | exact IsL.lend ‹_› | exact IsL.lend0 ‹_› | refine mapL_cons ?_ ?_ | refine lend_agg ?_ | rfl) (zValid G b hb.toBaseIs) rfl (v13 rfl ?_)
 iterate 2 refine wN rfl rfl rfl (v13 rfl ?_)
 refine we rfl ?_
 refine vc_cond rfl (fun hc5 => ?_) (fun hc5 => ?_)
 ·
  have hv : baseOk b = false := by simpa using hc5
  refine vs (wr ?_)
  refine wN rfl rfl rfl (v13 rfl ?_)
  refine we rfl (vc_ret (r_block (r_then (r_fn rfl ?_))))
  show some (AV.int .i64 100) = some (AV.int .i64 (askedE b ws))
  rw [askedE, if_neg (by rw [hv]; simp)]
 ·
  have hv : baseOk b = true := by simpa using hc5
  refine vs (wr ?_)
  iterate 2 refine wN rfl rfl rfl (v13 rfl ?_)
  refine w_callI (env' := _) rfl rfl rfl (by kernel_rfl) rfl (mapL_app hL0.lend (mapL_cons (lend_cloG (mapL_cons (lend0_ptr rfl rfl (by simp [isVal_int, isVal_bool, isVal_str, htv, hsv])) rfl)) rfl)) (hcont) rfl (v13 rfl ?_)
  refine wN rfl rfl rfl (v13 rfl ?_)
  refine we rfl ?_
  refine vc_cond rfl (fun hc9 => ?_) (fun hc9 => ?_)
  ·
   refine vs (wr ?_)
   refine wN rfl rfl rfl (v13 rfl ?_)
   refine we rfl (vc_ret (r_block (r_then (r_fn rfl ?_))))
   show some (AV.int .i64 2) = some (AV.int .i64 (askedE b ws))
   rw [askedE, if_pos hv, if_pos hc9]
  ·
   refine vc_skip (n_block (n_then (vs (wr ?_))))
   refine wN rfl rfl rfl (v13 rfl ?_)
   refine we rfl (vc_ret (r_fn rfl ?_))
   show some (AV.int .i64 0) = some (AV.int .i64 (askedE b ws))
   rw [askedE, if_pos hv, if_neg (by rw [hc9]; simp)]
set_option maxHeartbeats 4000000 in
theorem zReverse (G : Glob) (H : Hp) (L : Nat) (ws : List Int) (hH : H[L]? = some (.arr 3 1 (wrows ws))) (hlen : ws.length ≤ 100000) : XS Tryz.prog G 129 [.row false L 0 ws.length] H (fun r H' => H' = H.set L (.arr 3 1 (wrows ws.reverse))) := by
 refine xs_body (fun _ => .iso) Tryz.func129 rfl ?_
 refine vc_norm (env' := (_ :: _ :: _ :: _ :: _ :: _ :: _ :: _ :: _ :: _ :: _ :: _ :: _ :: _ :: _ :: _ :: _ :: _ :: _ :: _ :: _ :: _ :: _ :: _ :: _ :: _ :: _ :: _ :: [])) (H' := _) rfl rfl ?_
 refine vs (wr ?_)
 refine wN rfl rfl rfl (v28 rfl ?_)
 first | refine wN rfl rfl rfl (v28 rfl ?_) | refine x_len rfl rfl ‹_› Tryz.underlying35 rfl (v28 rfl ?_)
 refine wN (v := .int .i64 ((ws.length : Int) - 1)) rfl (int_eq (i64_small (by omega) (by omega))) rfl (v28 rfl ?_)
 iterate 2 refine wN rfl rfl rfl (v28 rfl ?_)
 refine we rfl (vc_block ?_)
 refine vc_loopX (α := { i : Nat // 2 * i ≤ ws.length }) (fun i => ([none, none, some (.int .i64 (i.1 : Nat)), some (.int .i64 ((ws.length : Int) - 1 - (i.1 : Nat))), none, none, none] ++ (rundef 21))) (fun i => (H.set L (.arr 3 1 (wrows (swp ws i.1))))) (fun i => ws.length - i.1) ⟨0, by omega⟩ (by repeat' first | exact trivial | refine ⟨.inr rfl, ?_⟩ | refine ⟨.inl rfl, ?_⟩ | refine ⟨.inl (congrArg (AV.int .i64) (by simp)), ?_⟩ | fail) (by rw [swp_zero]; exact (set_get hH).symm) ?_
 rintro ⟨i, hi⟩ Y0 hY0
 refine vc_norm (env' := (_ :: _ :: (.int .i64 (i : Int)) :: (.int .i64 ((ws.length : Int) - 1 - (i : Int))) :: _ :: _ :: _ :: _ :: _ :: _ :: _ :: _ :: _ :: _ :: _ :: _ :: _ :: _ :: _ :: _ :: _ :: _ :: _ :: _ :: _ :: _ :: _ :: _ :: [])) (H' := (H.set L (.arr 3 1 (wrows (swp ws i))))) rfl rfl ?_
 have hX : (H.set L (VO.arr 3 1 (wrows (swp ws i))))[L]? = some (.arr 3 1 (wrows (swp ws i))) := get_self hH
 refine vs (vs (wr ?_))
 iterate 3 refine wN rfl rfl rfl (v28 rfl ?_)
 refine we rfl ?_
 refine vc_cond rfl (fun hc9 => ?_) (fun hc9 => ?_)
 ·
  have hlt : (i : Int) < (ws.length : Int) - 1 - (i : Int) := of_decide_eq_true hc9
  obtain ⟨a, ha⟩ : ∃ a, ws[i]? = some a := ⟨_, List.getElem?_eq_getElem (by omega)⟩
  obtain ⟨z, hz⟩ : ∃ z, ws[ws.length - 1 - i]? = some z := ⟨_, List.getElem?_eq_getElem (by omega)⟩
  have hz2 : ((swp ws i).set i z)[ws.length - 1 - i]? = some z := by rw [List.getElem?_set_ne (by omega)]; exact swp_at (by omega) (by omega) hz
  have hX2 : (H.set L (VO.arr 3 1 (wrows ((swp ws i).set i z))))[L]? = some (.arr 3 1 (wrows ((swp ws i).set i z))) := get_self hH
  refine vc_skip (n_then (vs (vc_block (w_regionD (by kernel_rfl) ?_))))
  iterate 6 refine dN rfl rfl rfl (d28 rfl ?_)
  refine dN (v := .ptr L (ws.length - 1 - i) 0) rfl (g_indexN el35 hX (by omega) (by omega) (by omega)) rfl (d28 rfl ?_)
  refine dN (v := .int .i64 z) rfl (g_load hX (wrows_at (swp_at (by omega) (by omega) hz)) rfl) rfl (d28 rfl ?_)
  iterate 2 refine dN rfl rfl rfl (d28 rfl ?_)
  refine dN (v := .ptr L i 0) rfl (g_indexN el35 hX (by omega) (by omega) (by omega)) rfl (d28 rfl ?_)
  refine dN (v := .int .i64 a) rfl (g_load hX (wrows_at (swp_at (by omega) (by omega) ha)) rfl) rfl (d28 rfl ?_)
  refine dN (v := .ptr L i 0) rfl (g_indexN el35 hX (by omega) (by omega) (by omega)) rfl (d28 rfl ?_)
  refine d_op0 (H2 := (H.set L (VO.arr 3 1 (wrows ((swp ws i).set i z))))) rfl (g_store hX (wrows_at (swp_at (by omega) (by omega) ha)) rfl sz3 ⟨rfl, by simp, by decide⟩) (.inl rfl) (by rw [← wrows_set, List.set_set]; rfl) (fun _ h => h) ?_
  refine dN (v := .ptr L (ws.length - 1 - i) 0) rfl (g_indexN el35 hX2 (by omega) (by omega) (by omega)) rfl (d28 rfl ?_)
  refine d_op0 (H2 := (H.set L (VO.arr 3 1 (wrows (swp ws (i + 1)))))) rfl (g_store hX2 (wrows_at hz2) rfl sz3 ⟨rfl, by simp, by decide⟩) (.inl rfl) (by rw [List.set_set]; exact congrArg (fun q => H.set L (VO.arr 3 1 q)) (wrows_set.trans (congrArg wrows (swp_step (by omega) ha hz)))) (fun _ h => h) ?_
  refine d_endB rfl (n_then (wr ?_))
  refine wN rfl rfl rfl (v28 rfl ?_)
  refine wN (v := .int .i64 ((i + 1 : Nat) : Int)) rfl (int_eq (by rw [i64_small (by omega) (by omega)]; omega)) rfl (v28 rfl ?_)
  refine wN rfl rfl rfl (v28 rfl ?_)
  refine wN (v := .int .i64 ((ws.length : Int) - 1 - ((i + 1 : Nat) : Int))) rfl (int_eq (by rw [i64_small (by omega) (by omega)]; omega)) rfl (v28 rfl ?_)
  iterate 2 refine wN rfl rfl rfl (v28 rfl ?_)
  refine we rfl ?_
  refine hY0 ⟨i + 1, by omega⟩ (by simp only; omega) _ _ ?_ rfl
  repeat' first | exact trivial | refine ⟨.inr rfl, ?_⟩ | refine ⟨.inl rfl, ?_⟩ | refine ⟨.inl ?_, ?_⟩ | fail
  all_goals first | exact rfl
 ·
  have hge : ¬ (i : Int) < (ws.length : Int) - 1 - (i : Int) := of_decide_eq_false hc9
  refine vc_exit (x_then (x_then (x_same (n_fn rfl ?_))))
  rw [swp_done (by omega)]
set_option maxHeartbeats 4000000 in
theorem zDway (G : Glob) (b : PB) (hb : BaseV b) (n : Nat) (hU : Ups b.types n) (hn : n ≤ b.types.length) (t0 : Int) (h0 : 0 ≤ t0) (ht : t0 < n) (hn8 : n ≤ 1000) : Vi.Fn Tryz.prog G 101 [.agg (encB b), .int .i64 t0] (plist (wrows (way b.types t0).reverse)) := by
 have hL := hb.types.isL
 have hLs := hb.search.isL
 have htv := hb.txv
 have hsv := hb.sxv
 have hxl : (lrows b.tx).length = b.types.length := by rw [hb.types.rows]; simp
 refine fn_body (fun o => match o.op with | .call ⟨.value _, _, _⟩ => .shr | _ => .iso) Tryz.func101 rfl ?_
 refine vc_norm (env' := [_, _, _, _, _, _, _, _, _, _, _, _, _, _, _, _, _, _, _, _, _]) (H' := []) rfl rfl ?_
 refine vs (wr ?_)
 refine w_opH (v := .ptr 0 0 0) (env' := _) (H2 := [.arr 25 4 [[_, _, _, _]]]) rfl rfl rfl rfl (fun _ h => h) (v21 rfl ?_)
 refine wN rfl rfl rfl (v21 rfl ?_)
 refine we rfl (vs (wr ?_))
 refine wN rfl rfl rfl (v21 rfl ?_)
 refine we rfl (vs (vc_block ?_))
 refine vc_loopN (α := { a : Int × List Int // -1 ≤ a.1 ∧ a.1 < n ∧ a.2.length + (a.1 + 1).toNat ≤ 1000 ∧ way b.types t0 = a.2 ++ way b.types a.1 }) (fun a => ([none, some (.int .i64 a.1.1), none, none, none, some (pval 1 (wrows a.1.2))] ++ (rundef 12 ++ ([none, none, none])))) (fun a => [VO.arr 25 4 [[.str b.name, .int .i64 b.kind, b.tx, b.sx]], pobj 3 1 (wrows a.1.2)]) (fun a => (a.1.1 + 1).toNat) ⟨(t0, []), by omega, ht, by simp; omega, by simp⟩ [0, 1] (by repeat' first | exact trivial | refine ⟨.inl rfl, ?_⟩ | refine ⟨.inr rfl, ?_⟩ | refine ⟨.inr (IsL.ren1 ‹_›), ?_⟩ | refine ⟨(.inr (base_ren hL hLs)), ?_⟩ | fail) (by decide) (fun _ h => absurd h (by omega)) ⟨.inr ⟨_, rfl, ren_arr (base_renO hL hLs)⟩, .inl rfl, trivial⟩ (fun a => ⟨Nat.zero_le _, (by repeat' first | exact trivial | exact .inr ⟨_, rfl, rfl⟩ | exact IsL.valN ‹_› | exact (base_N hL hLs) | exact (pval_N rfl) | refine ⟨?_, ?_⟩ | fail), ⟨(fun r hr x hx => by simp at hr; subst hr; simp at hx; rcases hx with rfl | rfl | rfl | rfl <;> first | trivial | exact IsL.leafN (by assumption)), pobj_N wrows_val, trivial⟩⟩) ?_
 rintro ⟨⟨t, out⟩, hI⟩ Y0 hY0
 refine vc_norm (env' := [_, .int .i64 t, _, _, _, pval 1 (wrows out), _, _, _, _, _, _, _, _, _, _, _, _, _, _, _]) (H' := [VO.arr 25 4 [[.str b.name, .int .i64 b.kind, b.tx, b.sx]], pobj 3 1 (wrows out)]) rfl rfl ?_
 obtain ⟨h1, h2, h4, h3⟩ : -1 ≤ t ∧ t < n ∧ out.length + (t + 1).toNat ≤ 1000 ∧ way b.types t0 = out ++ way b.types t := hI
 refine vs (vs (wr ?_))
 iterate 2 refine wN rfl rfl rfl (v21 rfl ?_)
 refine we rfl ?_
 refine vc_cond rfl (fun hc7 => ?_) (fun hc7 => ?_)
 ·
  have ht0 : 0 ≤ t := of_decide_eq_true hc7
  obtain ⟨u, hu⟩ : ∃ u, b.types[(t).toNat]? = some u := ⟨_, List.getElem?_eq_getElem (by omega)⟩
  have hri : (lrows b.tx)[(t).toNat]? = some [.str u.name, .int .i64 u.parent, .int .i64 u.min, .int .i64 u.size, u.fx, .int .i64 u.key, .bool u.unique, .bool u.last] := by rw [hb.types.rows, List.getElem?_map, hu]; rfl
  have hpu : parentOf b.types (t) = u.parent := by simp only [parentOf, hu]
  have hpl := parent_lt hU hn (t := t) (by omega) (by omega)
  have hwr : wrows (out ++ [t]) = wrows out ++ [[.int .i64 t]] := by simp [wrows]
  have hwl : (wrows out).length = out.length := by simp [wrows]
  refine vc_skip (n_then (vs (vc_block (wr ?_))))
  iterate 3 refine wN rfl rfl rfl (v21 rfl ?_)
  refine w_opH (v := .row false 2 0 (out.length + 1)) (env' := _) (H2 := [VO.arr 25 4 [[.str b.name, .int .i64 b.kind, b.tx, b.sx]], .dead, .arr 3 1 (wrows out ++ [[.int .i64 t]])]) rfl ((acc_append (H := [VO.arr 25 4 [[.str b.name, .int .i64 b.kind, b.tx, b.sx]], pobj 3 1 (wrows out)]) (pgs := wrows out) (news := [[.int .i64 t]]) (x := .list .tight [[.int .i64 t]]) (L := 1) (sz := 1) rfl el35 Tryz.underlying35 rfl zc3 by3 rfl rfl (by decide) (by decide) rfl rfl (by simp) rfl (by simp [hwl]; omega)).trans (by rw [hwl]; rfl)) rfl (rfl) (fun _ h => h) (v21 rfl ?_)
  refine wN rfl rfl rfl (v21 rfl ?_)
  refine w_endB rfl (n_then (wr ?_))
  refine wN (v := .ptr 0 0 2) rfl rfl rfl (v21 rfl ?_)
  iterate 2 refine wN rfl rfl rfl (v21 rfl ?_)
  first | refine wN (v := .iptr _ [_, _, _, _, _, _, _, _]) rfl rfl rfl (v21 rfl ?_) | (refine x_index rfl rfl ‹_› rfl el22 (by omega) ‹_› rfl (fun bo => ?_); refine v21 rfl ?_)
  refine wN (v := .iptr _ [_, _, _, _, _, _, _]) rfl rfl rfl (v21 rfl ?_)
  iterate 2 refine wN rfl rfl rfl (v21 rfl ?_)
  refine we rfl ?_
  refine hY0 ⟨(u.parent, out ++ [t]), by omega, by omega, by simp; omega, by rw [h3, way_step hU hn ht0 h2, hpu]; simp⟩ (by have := hpl; simp only; omega) _ _ [0, 2] ?_ (by decide) (fun _ h => absurd h (by omega)) ⟨.inr ⟨_, rfl, ren_arr (base_renO hL hLs)⟩, .inr ⟨_, rfl, by rw [hwr]; exact pobj_snoc (by rw [← hwr]; exact wrows_val)⟩, trivial⟩
  repeat' first | exact trivial | refine ⟨.inl rfl, ?_⟩ | refine ⟨.inr rfl, ?_⟩ | refine ⟨.inr (IsL.ren1 ‹_›), ?_⟩ | refine ⟨(.inr (base_ren hL hLs)), ?_⟩ | refine ⟨(.inr (by rw [hwr]; exact (pval_snoc rfl).trans (by rw [hwl]))), ?_⟩ | fail
 ·
  have hout : way b.types t0 = out := by rw [h3, way_neg (by have := of_decide_eq_false hc7; omega)]; simp
  have hne : ¬ wrows out = [] := by intro e; rw [way_step hU hn h0 ht] at hout; subst hout; simp [wrows] at e
  have hwl : (wrows out).length = out.length := by simp [wrows]
  refine vc_exit (x_then (x_then (x_same (n_then (vs (wr ?_))))))
  refine wN rfl rfl rfl (v21 rfl ?_)
  simp only [pval, pobj, if_neg hne, hwl]
  refine w_callS rfl rfl rfl (by kernel_rfl) rfl (zReverse G _ 1 out rfl (by omega)) ?_
  rintro _ _ rfl
  refine v21 rfl ?_
  refine we rfl (vs (wr ?_))
  iterate 2 refine wN rfl rfl rfl (v21 rfl ?_)
  refine we rfl (vc_ret (r_fn rfl ?_))
  have hrne : ¬ wrows out.reverse = [] := by simpa [wrows] using hne
  have h := ret_pval (H := [VO.arr 25 4 [[.str b.name, .int .i64 b.kind, b.tx, b.sx]], VO.arr 3 1 (wrows out.reverse)]) (L := 1) (e := 3) (sz := 1) (pgs := wrows out.reverse) wrows_val (by rw [pobj, if_neg hrne]; rfl)
  rw [hout]
  rw [pval, if_neg hrne, show (wrows out.reverse).length = out.length by simp [wrows]] at h
  exact h
end Go.Vi
namespace Go.Vi
open Go Go.Vi Go.Proofs
attribute [local irreducible] vops vopsD vc
theorem askedE_cases {b : PB} {ws : List Int} : askedE b ws = 0 ∨ askedE b ws = 2 ∨ askedE b ws = 100 := by
 unfold askedE
 split
 · split
   · exact .inr (.inl rfl)
   · exact .inl rfl
 · exact .inr (.inr rfl)
theorem way_le8 {b : PB} {t : Int} (h : askedE b [t] = 0) : (way b.types t).length ≤ 8 := by
 obtain ⟨h1, h2, h3⟩ := asked_ok h
 obtain ⟨hU, h8⟩ := base_ups h1
 have := way_len hU (Nat.le_refl _) _ t (Nat.le_refl _) h3
 omega
def wayV (b : PB) (t : Int) : AV := if askedE b [t] = 0 then .tup [plist (wrows (way b.types t).reverse), .int .i64 0] else .tup [.nils, .int .i64 (askedE b [t])]
def wayR (b : PB) (t : Int) : AV := if askedE b [t] = 0 then .tup [wl (way b.types t).reverse, .int .i64 0] else .tup [.nils, .int .i64 (askedE b [t])]
def typeE (b : PB) (n : ByteArray) : Int × Int := if baseOk b = true then (match (b.types.map encT).findIdx? (nameIs n) with
 | some i => ((i : Int), 0)
 | none => (0, 5)) else (0, 100)
theorem plist_ret {H : Hp} {rows : List (List AV)} : ret1 H (plist rows) = some (plist rows) := by
 unfold plist; split <;> rfl
theorem wl_ret {H : Hp} {ws : List Int} : ret1 H (wl ws) = some (wl ws) := by
 unfold wl; split <;> rfl
theorem upto_bad {b : PB} {ws : List Int} {i : Nat} {w : Int} (hn : ∀ j v, j < i → ws[j]? = some v → badT b v = false) (hw : ws[i]? = some w) (h : badT b w = false) : ∀ j v, j < i + 1 → ws[j]? = some v → badT b v = false := by
 intro j v hj hv
 by_cases e : j = i
 · subst e; rw [hw] at hv; cases hv; exact h
 · exact hn j v (by omega) hv
theorem askedE_nil {b : PB} : askedE b [] = if baseOk b = true then 0 else 100 := by
 unfold askedE; simp
set_option maxHeartbeats 4000000 in
theorem zDWay (G : Glob) (b : PB) (hb : BaseV b) (t : Int) : Vi.Fn Tryz.prog G 71 [.agg (encB b), .int .i64 t] (wayV b t) := by
 have hL := hb.types.isL
 have hLs := hb.search.isL
 have htv := hb.txv
 have hsv := hb.sxv
 have hxl : (lrows b.tx).length = b.types.length := by rw [hb.types.rows]; simp
 refine fn_body (fun _ => .iso) Tryz.func71 rfl ?_
 refine vc_norm (env' := [_, _, _, _, _, _, _, _, _, _, _, _, _, _, _, _, _]) (H' := []) rfl rfl ?_
 refine vs (wr ?_)
 refine w_opH (v := .ptr 0 0 0) (env' := _) (H2 := [.arr 25 4 [[_, _, _, _]]]) rfl rfl rfl rfl (fun _ h => h) (v17 rfl ?_)
 iterate 2 refine wN rfl rfl rfl (v17 rfl ?_)
 refine we rfl (vs (vs (wr ?_)))
 refine wN (v := .agg [_, _, _, _]) rfl rfl rfl (v17 rfl ?_)
 iterate 2 refine wN rfl rfl rfl (v17 rfl ?_)
 refine w_callI (env' := _) rfl rfl rfl (by kernel_rfl) rfl (by repeat' first | exact IsL.lend ‹_› | exact IsL.lend0 ‹_› | refine mapL_cons ?_ ?_ | refine lend_agg ?_ | rfl) (zAsked G b hb (.list .tight [[.int .i64 t]]) [t] (.inr ⟨_, _, rfl⟩) rfl (by simp)) rfl (v17 rfl ?_)
 refine wN rfl rfl rfl (v17 rfl ?_)
 refine we rfl (vs (wr ?_))
 iterate 2 refine wN rfl rfl rfl (v17 rfl ?_)
 refine we rfl ?_
 refine vc_cond rfl (fun hc12 => ?_) (fun hc12 => ?_)
 ·
  refine vs (wr ?_)
  iterate 3 refine wN rfl rfl rfl (v17 rfl ?_)
  refine we rfl (vc_ret (r_then (r_fn rfl ?_)))
  have hne : ¬ askedE b [t] = 0 := by simpa using hc12
  show some (AV.tup [.nils, .int .i64 (askedE b [t])]) = some (wayV b t)
  rw [wayV, if_neg hne]
 ·
  have h0 : askedE b [t] = 0 := by simpa using hc12
  obtain ⟨hv, h1, h2⟩ := asked_ok h0
  obtain ⟨hU, h8⟩ := base_ups hv
  refine vc_skip (n_then (vs (wr ?_)))
  refine wN (v := .agg [_, _, _, _]) rfl rfl rfl (v17 rfl ?_)
  refine wN rfl rfl rfl (v17 rfl ?_)
  refine w_callI (env' := _) rfl rfl rfl (by kernel_rfl) rfl (by repeat' first | exact IsL.lend ‹_› | exact IsL.lend0 ‹_› | refine mapL_cons ?_ ?_ | refine lend_agg ?_ | rfl) (zDway G b hb b.types.length hU (Nat.le_refl _) t h1 h2 (by omega)) rfl (v17 rfl ?_)
  iterate 2 refine wN rfl rfl rfl (v17 rfl ?_)
  refine we rfl (vc_ret (r_fn rfl ?_))
  rw [wayV, if_pos h0]
  exact ret_tup2 plist_ret rfl
set_option maxHeartbeats 4000000 in
theorem zIsTypeR (G : Glob) (b : PB) (hb : BaseV b) (t : Int) : Vi.Fn Tryz.prog G 117 [.agg (encB b), .int .i64 t] (.bool (!badT b t)) := by
 have hL := hb.types.isL
 have hLs := hb.search.isL
 have htv := hb.txv
 have hsv := hb.sxv
 have hxl : (lrows b.tx).length = b.types.length := by rw [hb.types.rows]; simp
 refine fn_body (fun _ => .iso) Tryz.func117 rfl ?_
 refine vc_norm (env' := [_, _, _, _, _, _, _, _, _, _, _, _, _, _]) (H' := []) rfl rfl ?_
 refine vs (wr ?_)
 refine w_opH (v := .ptr 0 0 0) (env' := _) (H2 := [.arr 25 4 [[_, _, _, _]]]) rfl rfl rfl rfl (fun _ h => h) (v14 rfl ?_)
 refine wN rfl rfl rfl (v14 rfl ?_)
 refine we rfl (vs (wr ?_))
 iterate 3 refine wN rfl rfl rfl (v14 rfl ?_)
 refine w_split 7 rfl (fun hg7 => ?_) (fun hg7 => ?_)
 ·
  refine v14 rfl ?_
  refine wN (wanted_t 7 (by kernel_rfl) rfl) rfl rfl (v14 rfl ?_)
  refine wN (v := .ptr 0 0 2) (wanted_t 7 (by kernel_rfl) rfl) rfl rfl (v14 rfl ?_)
  refine wN (wanted_t 7 (by kernel_rfl) rfl) rfl rfl (v14 rfl ?_)
  first | refine wN (wanted_t 7 (by kernel_rfl) rfl) rfl rfl (v14 rfl ?_) | refine x_len (wanted_t 7 (by kernel_rfl) rfl) rfl ‹_› Tryz.underlying22 rfl (v14 rfl ?_)
  refine wN (wanted_t 7 (by kernel_rfl) rfl) rfl rfl (v14 rfl ?_)
  iterate 2 refine wN rfl rfl rfl (v14 rfl ?_)
  refine we rfl (vc_ret (r_fn rfl ?_))
  show some (AV.bool (decide (t < ((lrows b.tx).length : Int)))) = some (AV.bool (!badT b t))
  have h := of_decide_eq_true hg7
  rw [badT, hxl, decide_eq_false (show ¬ t < 0 by omega), Bool.false_or]
  congr 2
  rw [Bool.eq_iff_iff]; simp
 ·
  refine v14 rfl ?_
  iterate 5 refine wS (wanted_f 7 (by kernel_rfl) rfl) (v14 rfl ?_)
  iterate 2 refine wN rfl rfl rfl (v14 rfl ?_)
  refine we rfl (vc_ret (r_fn rfl ?_))
  have h := of_decide_eq_false hg7
  show some (AV.bool false) = some (AV.bool (!badT b t))
  rw [badT, decide_eq_true (show t < 0 by omega)]
  rfl
theorem zDWayX (G : Glob) (b : PB) (hb : BaseV b) (t : Int) : ∃ x, IsL x ∧ ((lrows x).length : Int) = (depthE b t).1 ∧ (lrows x).length ≤ 8 ∧ Vi.Fn Tryz.prog G 71 [.agg (encB b), .int .i64 t] (.tup [x, .int .i64 (depthE b t).2]) := by
 have hw := zDWay G b hb t
 by_cases h0 : askedE b [t] = 0
 · rw [wayV, if_pos h0] at hw
   rw [depthE, if_pos h0]
   have h8 := way_le8 h0
   exact ⟨_, IsL_plist, by rw [lrows_plist]; simp [wrows], by rw [lrows_plist]; simpa [wrows] using h8, hw⟩
 · rw [wayV, if_neg h0] at hw
   rw [depthE, if_neg h0]
   exact ⟨_, .inl rfl, rfl, by simp [lrows], hw⟩
set_option maxHeartbeats 4000000 in
theorem zDepth (G : Glob) (b : PB) (hb : BaseV b) (t : Int) : Vi.Fn Tryz.prog G 34 [.agg (encB b), .int .i64 t] (.tup [.int .i64 (depthE b t).1, .int .i64 (depthE b t).2]) := by
 have hL := hb.types.isL
 have hLs := hb.search.isL
 have htv := hb.txv
 have hsv := hb.sxv
 have hxl : (lrows b.tx).length = b.types.length := by rw [hb.types.rows]; simp
 obtain ⟨x, hxL, hxn, hx8, hw⟩ := zDWayX G b hb t
 refine fn_body (fun _ => .iso) Tryz.func34 rfl ?_
 refine vc_norm (env' := [_, _, _, _, _, _, _, _, _, _, _, _, _, _, _, _, _]) (H' := []) rfl rfl ?_
 refine vs (wr ?_)
 refine w_opH (v := .ptr 0 0 0) (env' := _) (H2 := [.arr 25 4 [[_, _, _, _]]]) rfl rfl rfl rfl (fun _ h => h) (v17 rfl ?_)
 iterate 2 refine wN rfl rfl rfl (v17 rfl ?_)
 refine we rfl (vs (wr ?_))
 refine wN (v := .agg [_, _, _, _]) rfl rfl rfl (v17 rfl ?_)
 refine wN rfl rfl rfl (v17 rfl ?_)
 refine w_callI (env' := _) rfl rfl rfl (by kernel_rfl) rfl (by repeat' first | exact IsL.lend ‹_› | exact IsL.lend0 ‹_› | refine mapL_cons ?_ ?_ | refine lend_agg ?_ | rfl) (hw) rfl (v17 rfl ?_)
 iterate 5 refine wN rfl rfl rfl (v17 rfl ?_)
 refine we rfl (vs (wr ?_))
 refine wN rfl rfl rfl (v17 rfl ?_)
 first | refine wN rfl rfl rfl (v17 rfl ?_) | refine x_len rfl rfl ‹_› Tryz.underlying35 rfl (v17 rfl ?_)
 iterate 3 refine wN rfl rfl rfl (v17 rfl ?_)
 refine we rfl (vc_ret (r_fn rfl ?_))
 show some (AV.tup [.int .i64 ((lrows x).length : Nat), .int .i64 (depthE b t).2]) = _
 rw [hxn]
set_option maxHeartbeats 4000000 in
theorem zAskedR (G : Glob) (b : PB) (hb : BaseV b) (x : AV) (ws : List Int) (hL0 : IsL x) (hr : lrows x = wrows ws) (hlen : ws.length < 9223372036854775808) : Vi.Fn Tryz.prog G 90 [.agg (encB b), x] (.int .i64 (askedE b ws)) := by
 have hL := hb.types.isL
 have hLs := hb.search.isL
 have htv := hb.txv
 have hsv := hb.sxv
 have hxl : (lrows b.tx).length = b.types.length := by rw [hb.types.rows]; simp
 have hrl : (lrows x).length = ws.length := by rw [hr]; simp [wrows]
 have hval := zRefValid G b hb.toBaseIs
 rw [← valid_eq] at hval
 refine fn_body (fun _ => .iso) Tryz.func90 rfl ?_
 refine vc_norm (env' := [_, _, _, _, _, _, _, _, _, _, _, _, _, _, _, _, _, _, _, _, _, _]) (H' := []) rfl rfl ?_
 refine vs (wr ?_)
 refine w_opH (v := .ptr 0 0 0) (env' := _) (H2 := [.arr 25 4 [[_, _, _, _]]]) rfl rfl rfl rfl (fun _ h => h) (v22 rfl ?_)
 refine wN rfl rfl rfl (v22 rfl ?_)
 refine we rfl (vs (vs (wr ?_)))
 refine wN (v := .agg [_, _, _, _]) rfl rfl rfl (v22 rfl ?_)
 refine w_callI (env' := _) rfl rfl rfl (by kernel_rfl) rfl (by repeat' first | exact IsL.lend ‹_› | exact IsL.lend0 ‹_› | refine mapL_cons ?_ ?_ | refine lend_agg ?_ | rfl) (hval) rfl (v22 rfl ?_)
 refine wN rfl rfl rfl (v22 rfl ?_)
 refine we rfl ?_
 refine vc_cond rfl (fun hc8 => ?_) (fun hc8 => ?_)
 ·
  have hv : baseOk b = false := by simpa using hc8
  refine vs (wr ?_)
  refine wN rfl rfl rfl (v22 rfl ?_)
  refine we rfl (vc_ret (r_then (r_fn rfl ?_)))
  show some (AV.int .i64 100) = some (AV.int .i64 (askedE b ws))
  rw [askedE, if_neg (by rw [hv]; simp)]
 ·
  have hv : baseOk b = true := by simpa using hc8
  refine vc_skip (n_then (vs (vs (wr ?_))))
  refine wN rfl rfl rfl (v22 rfl ?_)
  refine we rfl (vc_block ?_)
  refine vc_loopU (α := { i : Nat // (∀ j v, j < i → ws[j]? = some v → badT b v = false) ∧ i ≤ ws.length }) (fun i => (rnone 4 ++ ([some .undef, some (.int .i64 (i.1 : Nat)), none, none, none] ++ (rundef 13)))) (fun i => ws.length - i.1) ⟨0, fun j r h => by omega, by omega⟩ (by repeat' first | exact trivial | refine ⟨.inr rfl, ?_⟩ | refine ⟨.inl rfl, ?_⟩ | fail) (fun _ => ⟨Nat.zero_le _, (by repeat' first | exact trivial | exact IsL.belowV ‹_› | refine ⟨?_, ?_⟩ | exact IsL.below ‹_› | (simp [valB, leafB, cellsB, IsL.below, *]; done) | (simp [valB, leafB, cellsB, IsL.below, *]; omega) | fail), (by repeat' first | exact trivial | exact IsL.below (by assumption) | refine ⟨?_, ?_⟩ | (simp [leafB]; done))⟩) ?_
  rintro ⟨i, hn, hi⟩ Y0 hY0
  refine vc_norm (env' := [_, _, _, _, _, .int .i64 (i : Int), _, _, _, _, _, _, _, _, _, _, _, _, _, _, _, _]) (H' := [.arr 25 4 [[_, _, _, _]]]) rfl rfl ?_
  refine vs (vs (wr ?_))
  iterate 2 refine wN rfl rfl rfl (v22 rfl ?_)
  first | refine wN rfl rfl rfl (v22 rfl ?_) | refine x_len rfl rfl ‹_› Tryz.underlying35 rfl (v22 rfl ?_)
  refine wN rfl rfl rfl (v22 rfl ?_)
  refine we rfl ?_
  refine vc_cond rfl (fun hc12 => ?_) (fun hc12 => ?_)
  ·
   have hlt : i < ws.length := by have := of_decide_eq_true hc12; omega
   obtain ⟨w, hw⟩ : ∃ w, ws[i]? = some w := ⟨_, List.getElem?_eq_getElem hlt⟩
   have hri : (lrows x)[i]? = some [.int .i64 w] := by rw [hr]; exact wrows_at hw
   refine vc_skip (n_then (vs (vc_block (vs (w_regionD (by kernel_rfl) ?_)))))
   refine dN (v := .agg [_, _, _, _]) rfl rfl rfl (d22 rfl ?_)
   iterate 2 refine dN rfl rfl rfl (d22 rfl ?_)
   first | refine dN (v := .iptr _ [_]) rfl rfl rfl (d22 rfl ?_) | (refine y_index rfl rfl ‹_› rfl el35 (by omega) ‹_› rfl (fun bo => ?_); refine d22 rfl ?_)
   refine dN rfl rfl rfl (d22 rfl ?_)
   refine d_callI (env' := _) rfl rfl rfl (by kernel_rfl) rfl (mapL_app (lend_agg (mapL_cons rfl (mapL_cons rfl (mapL_cons hL.lend0 (mapL_cons hLs.lend0 rfl))))) rfl) (zIsTypeR G b hb w) rfl (d22 rfl ?_)
   refine dN rfl rfl rfl (d22 rfl ?_)
   refine d_end rfl ?_
   refine vc_cond rfl (fun hc21 => ?_) (fun hc21 => ?_)
   ·
    have hbad : badT b w = true := by simpa using hc21
    refine vs (wr ?_)
    refine wN rfl rfl rfl (v22 rfl ?_)
    refine we rfl (vc_ret (r_block (r_then (r_then (r_block (r_then (r_fn rfl ?_)))))))
    show some (AV.int .i64 2) = some (AV.int .i64 (askedE b ws))
    rw [askedE, if_pos hv, if_pos (List.any_eq_true.2 ⟨w, List.mem_of_getElem? hw, hbad⟩)]
   ·
    have hbad : badT b w = false := by simpa using hc21
    refine vc_skip (n_block (n_then (wr ?_)))
    iterate 3 refine wN rfl rfl rfl (v22 rfl ?_)
    refine we rfl ?_
    refine hY0 ⟨i + 1, upto_bad hn hw hbad, hlt⟩ (by simp only; omega) _ _ _ ?_ rfl
    repeat' first | exact trivial | refine ⟨.inr rfl, ?_⟩ | refine ⟨.inl rfl, ?_⟩ | refine ⟨.inl ?_, ?_⟩ | fail
    all_goals first | exact (int_succ (by omega)).symm
  ·
   have hge : ¬ i < ws.length := by have := of_decide_eq_false hc12; omega
   refine vc_exit (x_then (x_then (x_same (n_then (vs (wr ?_))))))
   refine wN rfl rfl rfl (v22 rfl ?_)
   refine we rfl (vc_ret (r_fn rfl ?_))
   show some (AV.int .i64 0) = some (AV.int .i64 (askedE b ws))
   rw [askedE, if_pos hv, if_neg]
   rw [Bool.not_eq_true, List.any_eq_false]
   intro v hv2
   obtain ⟨j, hj⟩ := List.mem_iff_getElem?.1 hv2
   rw [hn j v (by have := (List.getElem?_eq_some_iff.1 hj).1; omega) hj]
   simp
set_option maxHeartbeats 4000000 in
theorem zRWay (G : Glob) (b : PB) (hb : BaseV b) (t : Int) : Vi.Fn Tryz.prog G 75 [.agg (encB b), .int .i64 t] (wayR b t) := by
 have hL := hb.types.isL
 have hLs := hb.search.isL
 have htv := hb.txv
 have hsv := hb.sxv
 have hxl : (lrows b.tx).length = b.types.length := by rw [hb.types.rows]; simp
 refine fn_body (fun _ => .iso) Tryz.func75 rfl ?_
 refine vc_norm (env' := [_, _, _, _, _, _, _, _, _, _, _, _, _, _, _, _, _]) (H' := []) rfl rfl ?_
 refine vs (wr ?_)
 refine w_opH (v := .ptr 0 0 0) (env' := _) (H2 := [.arr 25 4 [[_, _, _, _]]]) rfl rfl rfl rfl (fun _ h => h) (v17 rfl ?_)
 iterate 2 refine wN rfl rfl rfl (v17 rfl ?_)
 refine we rfl (vs (vs (wr ?_)))
 refine wN (v := .agg [_, _, _, _]) rfl rfl rfl (v17 rfl ?_)
 iterate 2 refine wN rfl rfl rfl (v17 rfl ?_)
 refine w_callI (env' := _) rfl rfl rfl (by kernel_rfl) rfl (by repeat' first | exact IsL.lend ‹_› | exact IsL.lend0 ‹_› | refine mapL_cons ?_ ?_ | refine lend_agg ?_ | rfl) (zAskedR G b hb (.list .tight [[.int .i64 t]]) [t] (.inr ⟨_, _, rfl⟩) rfl (by simp)) rfl (v17 rfl ?_)
 refine wN rfl rfl rfl (v17 rfl ?_)
 refine we rfl (vs (wr ?_))
 iterate 2 refine wN rfl rfl rfl (v17 rfl ?_)
 refine we rfl ?_
 refine vc_cond rfl (fun hc12 => ?_) (fun hc12 => ?_)
 ·
  refine vs (wr ?_)
  iterate 3 refine wN rfl rfl rfl (v17 rfl ?_)
  refine we rfl (vc_ret (r_then (r_fn rfl ?_)))
  have hne : ¬ askedE b [t] = 0 := by simpa using hc12
  show some (AV.tup [.nils, .int .i64 (askedE b [t])]) = some (wayR b t)
  rw [wayR, if_neg hne]
 ·
  have h0 : askedE b [t] = 0 := by simpa using hc12
  obtain ⟨hv, h1, h2⟩ := asked_ok h0
  obtain ⟨hU, h8⟩ := base_ups hv
  refine vc_skip (n_then (vs (wr ?_)))
  refine wN (v := .agg [_, _, _, _]) rfl rfl rfl (v17 rfl ?_)
  refine wN rfl rfl rfl (v17 rfl ?_)
  refine w_callI (env' := _) rfl rfl rfl (by kernel_rfl) rfl (by repeat' first | exact IsL.lend ‹_› | exact IsL.lend0 ‹_› | refine mapL_cons ?_ ?_ | refine lend_agg ?_ | rfl) (zWay G b hb.toBaseIs b.types.length hU (Nat.le_refl _) t (by omega) h2 (by omega)) rfl (v17 rfl ?_)
  iterate 2 refine wN rfl rfl rfl (v17 rfl ?_)
  refine we rfl (vc_ret (r_fn rfl ?_))
  rw [wayR, if_pos h0]
  exact ret_tup2 wl_ret rfl
theorem zRWayX (G : Glob) (b : PB) (hb : BaseV b) (t : Int) : ∃ x, IsL x ∧ ((lrows x).length : Int) = (depthE b t).1 ∧ (lrows x).length ≤ 8 ∧ Vi.Fn Tryz.prog G 75 [.agg (encB b), .int .i64 t] (.tup [x, .int .i64 (depthE b t).2]) := by
 have hw := zRWay G b hb t
 by_cases h0 : askedE b [t] = 0
 · rw [wayR, if_pos h0] at hw
   rw [depthE, if_pos h0]
   have h8 := way_le8 h0
   exact ⟨_, (wl_L _), by rw [lrows_wl]; simp [wrows], by rw [lrows_wl]; simpa [wrows] using h8, hw⟩
 · rw [wayR, if_neg h0] at hw
   rw [depthE, if_neg h0]
   exact ⟨_, .inl rfl, rfl, by simp [lrows], hw⟩
set_option maxHeartbeats 4000000 in
theorem zRDepth (G : Glob) (b : PB) (hb : BaseV b) (t : Int) : Vi.Fn Tryz.prog G 40 [.agg (encB b), .int .i64 t] (.tup [.int .i64 (depthE b t).1, .int .i64 (depthE b t).2]) := by
 have hL := hb.types.isL
 have hLs := hb.search.isL
 have htv := hb.txv
 have hsv := hb.sxv
 have hxl : (lrows b.tx).length = b.types.length := by rw [hb.types.rows]; simp
 obtain ⟨x, hxL, hxn, hx8, hw⟩ := zRWayX G b hb t
 refine fn_body (fun _ => .iso) Tryz.func40 rfl ?_
 refine vc_norm (env' := [_, _, _, _, _, _, _, _, _, _, _, _, _, _, _, _, _]) (H' := []) rfl rfl ?_
 refine vs (wr ?_)
 refine w_opH (v := .ptr 0 0 0) (env' := _) (H2 := [.arr 25 4 [[_, _, _, _]]]) rfl rfl rfl rfl (fun _ h => h) (v17 rfl ?_)
 iterate 2 refine wN rfl rfl rfl (v17 rfl ?_)
 refine we rfl (vs (wr ?_))
 refine wN (v := .agg [_, _, _, _]) rfl rfl rfl (v17 rfl ?_)
 refine wN rfl rfl rfl (v17 rfl ?_)
 refine w_callI (env' := _) rfl rfl rfl (by kernel_rfl) rfl (by repeat' first | exact IsL.lend ‹_› | exact IsL.lend0 ‹_› | refine mapL_cons ?_ ?_ | refine lend_agg ?_ | rfl) (hw) rfl (v17 rfl ?_)
 iterate 5 refine wN rfl rfl rfl (v17 rfl ?_)
 refine we rfl (vs (wr ?_))
 refine wN rfl rfl rfl (v17 rfl ?_)
 first | refine wN rfl rfl rfl (v17 rfl ?_) | refine x_len rfl rfl ‹_› Tryz.underlying35 rfl (v17 rfl ?_)
 iterate 3 refine wN rfl rfl rfl (v17 rfl ?_)
 refine we rfl (vc_ret (r_fn rfl ?_))
 show some (AV.tup [.int .i64 ((lrows x).length : Nat), .int .i64 (depthE b t).2]) = _
 rw [hxn]
end Go.Vi
