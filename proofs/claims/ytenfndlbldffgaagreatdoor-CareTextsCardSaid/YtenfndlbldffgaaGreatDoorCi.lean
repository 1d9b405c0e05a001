/- Proved: the tied card of CareTexts (Rows.CareTextsCardSaid): for every base, forest and text that the row lets in, the law CareTexts answers true, ends, and changes nothing that it was given. Conditions: those of the given statement, no others. -/
import Derived.Test.YtenfndlbldffgaaGreatDoorVe
import Derived.KernelRfl
import Derived.Test.YtenfndlbldffgaaGreatDoorProg
import Derived.Test.YtenfndlbldffgaaGreatDoorCg
import Derived.Test.YtenfndlbldffgaaGreatDoorCh
import Derived.Test.YtenfndlbldffgaaGreatDoorCe
import Derived.Test.YtenfndlbldffgaaGreatDoorCards
import Derived.Test.YtenfndlbldffgaaGreatDoorTie
import Derived.ProofKit
import Derived.LaidMore
import Derived.OpenShut
import Derived.Stop.Joined
import Derived.SevenTiedAt
import Derived.Lay
set_option autoImplicit false
namespace Go.Vi
open Go Go.Vi Go.Proofs
def calleeZ (o : Oper) : Nat := match o.op with
 | .call { callee := .value (.func f), .. } => f
 | _ => 1000
def mdZ (f : Nat) (o : Oper) : Md := match o.op with
 | .alloc _ => if f = 10 then .shf else .iso
 | .buildSlice .. => if f = 100 ∧ o.dst ≠ some 89 ∧ o.dst ≠ some 95 then .shr else .iso
 | _ => if (calleeZ o) ∈ [35, 38, 72, 129] then .shr else .iso
theorem zFirst_run (G : Glob) : (erun Tryz.prog mdZ G 200 20 9 [] []).map (·.1) = some (.bool true) := by kernel_rfl
theorem zFirst (G : Glob) : Vi.Fn Tryz.prog G 9 [] (.bool true) := by
 obtain ⟨⟨r, H⟩, h1, h2⟩ := Option.map_eq_some_iff.1 (zFirst_run G)
 simp only at h2
 subst h2
 refine XS.mono (erun_ok Tryz.prog mdZ G 200 20 9 [] [] _ H h1) ?_
 rintro r1 H1 ⟨rfl, rfl⟩
 rfl
end Go.Vi
set_option linter.unusedVariables false
set_option linter.unusedSimpArgs false
set_option maxRecDepth 100000
namespace Go.Vi
open Go Go.Vi Go.Proofs
attribute [local irreducible] vops vopsD vc
def smallP (b : PB) (f : List PI) : Bool := b.types.all (fun t => !decide ((t.fields.length : Int) > 10)) && f.all (fun y => !decide ((y.data.size : Int) > 100)) && (decide ((b.types.length : Int) ≤ 12) && decide ((b.search.length : Int) ≤ 6) && decide ((f.length : Int) ≤ 60))
theorem small_t {b : PB} {f : List PI} {i : Nat} {t : PT} (ht : b.types[i]? = some t) (h : (t.fields.length : Int) > 10) : smallP b f = false := by
 have : b.types.all (fun t => !decide ((t.fields.length : Int) > 10)) = false := List.all_eq_false.2 ⟨t, List.mem_of_getElem? ht, by rw [decide_eq_true h]; simp⟩
 rw [smallP, this]; rfl
theorem small_y {b : PB} {f : List PI} {i : Nat} {y : PI} (hy : f[i]? = some y) (h : (y.data.size : Int) > 100) : smallP b f = false := by
 have : f.all (fun y => !decide ((y.data.size : Int) > 100)) = false := List.all_eq_false.2 ⟨y, List.mem_of_getElem? hy, by rw [decide_eq_true h]; simp⟩
 rw [smallP, this, Bool.and_false]; rfl
theorem small_all {b : PB} {f : List PI} (h1 : ∀ j t, j < b.types.length → b.types[j]? = some t → ¬ (t.fields.length : Int) > 10) (h2 : ∀ j y, j < f.length → f[j]? = some y → ¬ (y.data.size : Int) > 100) : smallP b f = (decide ((b.types.length : Int) ≤ 12) && decide ((b.search.length : Int) ≤ 6) && decide ((f.length : Int) ≤ 60)) := by
 have e1 : b.types.all (fun t => !decide ((t.fields.length : Int) > 10)) = true := List.all_eq_true.2 fun t ht => by
  obtain ⟨j, hj⟩ := List.mem_iff_getElem?.1 ht
  rw [decide_eq_false (h1 j t (List.getElem?_eq_some_iff.1 hj).1 hj)]; rfl
 have e2 : f.all (fun y => !decide ((y.data.size : Int) > 100)) = true := List.all_eq_true.2 fun t ht => by
  obtain ⟨j, hj⟩ := List.mem_iff_getElem?.1 ht
  rw [decide_eq_false (h2 j t (List.getElem?_eq_some_iff.1 hj).1 hj)]; rfl
 rw [smallP, e1, e2, Bool.true_and, Bool.true_and]
theorem ne_self {P : Program} {H : Hp} {t : TypeId} (s : ByteArray) : (orX (vbin P .neq t (.str s) (.str s)) (vbinX P .neq t (.str s) (.str s))).map (·, H) = some (.bool false, H) := by
 have h : vbin P .neq t (.str s) (.str s) = some (.bool false) := by
  simp only [vbin, vstr, seq_self, Bool.not_true]
 rw [h]; rfl
theorem plist_items {g : List PI} (hs : ∀ y ∈ g, y.data.size < 9223372036854775808) (hl : g.length < 9223372036854775808) : ItemsIs (plist (g.map encI)) g := ⟨IsL_plist, lrows_plist, hs, hl⟩
theorem reload_tup (b : PB) (l : List UInt8) : ∃ X e g, reloadV b l = .tup [X, .int .i64 e] ∧ ItemsIs X g := by
 have hn : ItemsIs .nils [] := ⟨.inl rfl, rfl, fun y h => (by cases h), by simp⟩
 unfold reloadV
 split
 · rename_i hv
   cases h : RV b l with
   | none => exact ⟨_, _, _, rfl, hn⟩
   | some g =>
     have hf0 : forestE b g = 0 := by
      unfold RV fits2 at h
      split at h
      · split at h
        · rename_i hc; cases h; exact hc.1
        · cases h
      · cases h
     have hr := (forest_ok hf0).2
     exact ⟨_, _, _, rfl, plist_items (fun y hy => by obtain ⟨_, _, _, _, _, h40, _⟩ := line_small hv hr hy; omega) (by have := right_200 hr; omega)⟩
 · exact ⟨_, _, _, rfl, hn⟩
theorem stat_tup (b : PB) (f : List PI) : ∃ A B e wa wb, statV b f = .tup [A, B, .int .i64 e] ∧ IsL A ∧ IsL B ∧ lrows A = wrows wa ∧ lrows B = wrows wb ∧ wa.length < 9223372036854775808 ∧ wb.length < 9223372036854775808 := by
 unfold statV
 split
 · rename_i h
   have h8 := (base_ups (forest_ok h).1).2
   exact ⟨_, _, _, _, _, rfl, .inr ⟨_, _, rfl⟩, .inr ⟨_, _, rfl⟩, rfl, rfl, by simp; omega, by simp; omega⟩
 · exact ⟨_, _, _, [], [], rfl, .inl rfl, .inl rfl, rfl, rfl, by simp, by simp⟩
set_option maxHeartbeats 16000000 in
theorem zSmall (G : Glob) (b : PB) (hb : BaseV b) (x : AV) (f : List PI) (hx : ItemsIs x f) : Vi.Fn Tryz.prog G 8 [.agg (encB b), x] (.bool (smallP b f)) := by
 have hL := hb.types.isL
 have hLs := hb.search.isL
 have htv := hb.txv
 have hsv := hb.sxv
 have hxl : (lrows b.tx).length = b.types.length := by rw [hb.types.rows]; simp
 have hXL := hx.isL
 have hfl : (lrows x).length = f.length := by rw [hx.rows]; simp
 have hxlen := hx.len
 have htlen := hb.types.len
 have hsl : (lrows b.sx).length = b.search.length := by rw [hb.search.rows]; simp
 refine fn_body (fun _ => .iso) Tryz.func8 rfl ?_
 refine vc_norm (env' := (_ :: _ :: _ :: _ :: _ :: _ :: _ :: _ :: _ :: _ :: _ :: _ :: _ :: _ :: _ :: _ :: _ :: _ :: _ :: _ :: _ :: _ :: _ :: _ :: _ :: _ :: _ :: _ :: _ :: _ :: _ :: _ :: _ :: _ :: _ :: _ :: _ :: _ :: _ :: _ :: _ :: _ :: _ :: _ :: _ :: _ :: _ :: _ :: _ :: _ :: [])) (H' := []) rfl rfl ?_
 refine vs (wr ?_)
 refine w_opH (v := .ptr 0 0 0) (env' := _) (H2 := [.arr 25 4 [[_, _, _, _]]]) rfl rfl rfl rfl (fun _ h => h) (v50 rfl ?_)
 refine wN rfl rfl rfl (v50 rfl ?_)
 refine we rfl (vs (vs (wr ?_)))
 refine wN rfl rfl rfl (v50 rfl ?_)
 refine we rfl (vc_block ?_)
 refine vc_loopU (α := { i : Nat // (∀ j t, j < i → b.types[j]? = some t → ¬ (t.fields.length : Int) > 10) ∧ i ≤ b.types.length }) (fun i => (rnone 4 ++ ([some .undef, some (.int .i64 (i.1 : Nat)), none] ++ (rundef 15 ++ (rnone 28))))) (fun i => b.types.length - i.1) ⟨0, fun j t h => by omega, by omega⟩ (by repeat' first | exact trivial | refine ⟨.inr rfl, ?_⟩ | refine ⟨.inl rfl, ?_⟩ | fail) (fun _ => ⟨Nat.zero_le _, (by repeat' first | exact trivial | exact IsL.belowV ‹_› | refine ⟨?_, ?_⟩ | exact IsL.below ‹_› | (simp [valB, leafB, cellsB, IsL.below, *]; done) | (simp [valB, leafB, cellsB, IsL.below, *]; omega) | fail), (by repeat' first | exact trivial | exact IsL.below (by assumption) | refine ⟨?_, ?_⟩ | (simp [leafB]; done))⟩) ?_
 rintro ⟨i, hn, hi⟩ Y0 hY0
 refine vc_norm (env' := (_ :: _ :: _ :: _ :: _ :: (.int .i64 (i : Int)) :: _ :: _ :: _ :: _ :: _ :: _ :: _ :: _ :: _ :: _ :: _ :: _ :: _ :: _ :: _ :: _ :: _ :: _ :: _ :: _ :: _ :: _ :: _ :: _ :: _ :: _ :: _ :: _ :: _ :: _ :: _ :: _ :: _ :: _ :: _ :: _ :: _ :: _ :: _ :: _ :: _ :: _ :: _ :: _ :: [])) (H' := [.arr 25 4 [[_, _, _, _]]]) rfl rfl ?_
 refine vs (vs (wr ?_))
 refine wN rfl rfl rfl (v50 rfl ?_)
 refine wN (v := .ptr 0 0 2) rfl rfl rfl (v50 rfl ?_)
 refine wN rfl rfl rfl (v50 rfl ?_)
 first | refine wN rfl rfl rfl (v50 rfl ?_) | refine x_len rfl rfl ‹_› Tryz.underlying22 rfl (v50 rfl ?_)
 refine wN rfl rfl rfl (v50 rfl ?_)
 refine we rfl ?_
 refine vc_cond rfl (fun hc11 => ?_) (fun hc11 => ?_)
 ·
  have hlt : i < b.types.length := by have := of_decide_eq_true hc11; omega
  obtain ⟨t, ht⟩ : ∃ t, b.types[i]? = some t := ⟨_, List.getElem?_eq_getElem hlt⟩
  have hrt : (lrows b.tx)[i]? = some [.str t.name, .int .i64 t.parent, .int .i64 t.min, .int .i64 t.size, t.fx, .int .i64 t.key, .bool t.unique, .bool t.last] := by rw [hb.types.rows, List.getElem?_map, ht]; rfl
  have hti := hb.types.each t (List.mem_of_getElem? ht)
  have hfxL := hti.fx.isL
  have hfxl : (lrows t.fx).length = t.fields.length := by rw [hti.fx.rows]; simp
  refine vc_skip (n_then (vs (vc_block (vs (wr ?_)))))
  refine wN (v := .ptr 0 0 2) rfl rfl rfl (v50 rfl ?_)
  iterate 2 refine wN rfl rfl rfl (v50 rfl ?_)
  first | refine wN (v := .iptr _ [_, _, _, _, _, _, _, _]) rfl rfl rfl (v50 rfl ?_) | (refine x_index rfl rfl ‹_› rfl el22 (by omega) ‹_› rfl (fun bo => ?_); refine v50 rfl ?_)
  refine wN (v := .iptr _ [_, _, _, _]) rfl rfl rfl (v50 rfl ?_)
  refine wN rfl rfl rfl (v50 rfl ?_)
  first | refine wN rfl rfl rfl (v50 rfl ?_) | refine x_len rfl rfl ‹_› Tryz.underlying60 rfl (v50 rfl ?_)
  refine wN rfl rfl rfl (v50 rfl ?_)
  refine we rfl ?_
  refine vc_cond rfl (fun hc21 => ?_) (fun hc21 => ?_)
  ·
   refine vs (wr ?_)
   refine wN rfl rfl rfl (v50 rfl ?_)
   refine we rfl (vc_ret (r_block (r_then (r_then (r_block (r_then (r_fn rfl ?_)))))))
   have he : smallP b f = false := small_t ht (by have := of_decide_eq_true hc21; omega)
   show some (AV.bool false) = some (AV.bool (smallP b f))
   rw [he]
  ·
   have hno : ¬ (t.fields.length : Int) > 10 := by have := of_decide_eq_false hc21; omega
   refine vc_skip (n_block (n_then (wr ?_)))
   iterate 3 refine wN rfl rfl rfl (v50 rfl ?_)
   refine we rfl ?_
   refine hY0 ⟨i + 1, fun j u hj hu => by by_cases e : j = i; subst e; rw [ht] at hu; cases hu; exact hno; exact hn j u (by omega) hu, hlt⟩ (by simp only; omega) _ _ _ ?_ rfl
   repeat' first | exact trivial | refine ⟨.inr rfl, ?_⟩ | refine ⟨.inl rfl, ?_⟩ | refine ⟨.inl ?_, ?_⟩ | fail
   all_goals first | exact (int_succ (by omega)).symm
 ·
  have hge : ¬ i < b.types.length := by have := of_decide_eq_false hc11; omega
  refine vc_exit (x_then (x_then (x_same (n_then (vs (vs (wr ?_)))))))
  refine wN rfl rfl rfl (v50 rfl ?_)
  refine we rfl (vc_block ?_)
  refine vc_loopU (α := { i : Nat // (∀ j y, j < i → f[j]? = some y → ¬ (y.data.size : Int) > 100) ∧ i ≤ f.length }) (fun j => (rnone 4 ++ ([some .undef, none, some (.int .i64 (j.1 : Nat))] ++ (rnone 15 ++ (rundef 13 ++ (rnone 15)))))) (fun j => f.length - j.1) ⟨0, fun j t h => by omega, by omega⟩ (by repeat' first | exact trivial | refine ⟨.inr rfl, ?_⟩ | refine ⟨.inl rfl, ?_⟩ | fail) (fun _ => ⟨Nat.zero_le _, (by repeat' first | exact trivial | exact IsL.belowV ‹_› | refine ⟨?_, ?_⟩ | exact IsL.below ‹_› | (simp [valB, leafB, cellsB, IsL.below, *]; done) | (simp [valB, leafB, cellsB, IsL.below, *]; omega) | fail), (by repeat' first | exact trivial | exact IsL.below (by assumption) | refine ⟨?_, ?_⟩ | (simp [leafB]; done))⟩) ?_
  rintro ⟨j, hn2, hj2⟩ Y1 hY1
  refine vc_norm (env' := (_ :: _ :: _ :: _ :: _ :: _ :: (.int .i64 (j : Int)) :: _ :: _ :: _ :: _ :: _ :: _ :: _ :: _ :: _ :: _ :: _ :: _ :: _ :: _ :: _ :: _ :: _ :: _ :: _ :: _ :: _ :: _ :: _ :: _ :: _ :: _ :: _ :: _ :: _ :: _ :: _ :: _ :: _ :: _ :: _ :: _ :: _ :: _ :: _ :: _ :: _ :: _ :: _ :: [])) (H' := [.arr 25 4 [[_, _, _, _]]]) rfl rfl ?_
  refine vs (vs (wr ?_))
  iterate 2 refine wN rfl rfl rfl (v50 rfl ?_)
  first | refine wN rfl rfl rfl (v50 rfl ?_) | refine x_len rfl rfl ‹_› Tryz.underlying26 rfl (v50 rfl ?_)
  refine wN rfl rfl rfl (v50 rfl ?_)
  refine we rfl ?_
  refine vc_cond rfl (fun hc25 => ?_) (fun hc25 => ?_)
  ·
   have hlt2 : j < f.length := by have := of_decide_eq_true hc25; omega
   obtain ⟨y, hyy⟩ : ∃ y, f[j]? = some y := ⟨_, List.getElem?_eq_getElem hlt2⟩
   have hri := hx.at hyy
   refine vc_skip (n_then (vs (vc_block (vs (wr ?_)))))
   iterate 2 refine wN rfl rfl rfl (v50 rfl ?_)
   first | refine wN (v := .iptr _ [_, _]) rfl rfl rfl (v50 rfl ?_) | (refine x_index rfl rfl ‹_› rfl el26 (by omega) ‹_› rfl (fun bo => ?_); refine v50 rfl ?_)
   refine wN (v := .iptr _ [_]) rfl rfl rfl (v50 rfl ?_)
   iterate 3 refine wN rfl rfl rfl (v50 rfl ?_)
   refine we rfl ?_
   refine vc_cond rfl (fun hc34 => ?_) (fun hc34 => ?_)
   ·
    refine vs (wr ?_)
    refine wN rfl rfl rfl (v50 rfl ?_)
    refine we rfl (vc_ret (r_block (r_then (r_then (r_block (r_then (r_fn rfl ?_)))))))
    have he : smallP b f = false := small_y hyy (of_decide_eq_true hc34)
    show some (AV.bool false) = some (AV.bool (smallP b f))
    rw [he]
   ·
    have hno2 : ¬ (y.data.size : Int) > 100 := of_decide_eq_false hc34
    refine vc_skip (n_block (n_then (wr ?_)))
    iterate 3 refine wN rfl rfl rfl (v50 rfl ?_)
    refine we rfl ?_
    refine hY1 ⟨j + 1, fun q u hq hu => by by_cases e : q = j; subst e; rw [hyy] at hu; cases hu; exact hno2; exact hn2 q u (by omega) hu, hlt2⟩ (by simp only; omega) _ _ _ ?_ rfl
    repeat' first | exact trivial | refine ⟨.inr rfl, ?_⟩ | refine ⟨.inl rfl, ?_⟩ | refine ⟨.inl ?_, ?_⟩ | fail
    all_goals first | exact (int_succ (by omega)).symm
  ·
   have hge2 : ¬ j < f.length := by have := of_decide_eq_false hc25; omega
   have hsm := small_all (b := b) (f := f) (fun q t hq ht => hn q t (by omega) ht) (fun q y hq hy => hn2 q y (by omega) hy)
   refine vc_exit (x_then (x_then (x_same (n_then (vs (wr ?_))))))
   refine wN (v := .ptr 0 0 2) rfl rfl rfl (v50 rfl ?_)
   refine wN rfl rfl rfl (v50 rfl ?_)
   first | refine wN rfl rfl rfl (v50 rfl ?_) | refine x_len rfl rfl ‹_› Tryz.underlying22 rfl (v50 rfl ?_)
   iterate 2 refine wN rfl rfl rfl (v50 rfl ?_)
   refine w_split 39 rfl (fun hg39 => ?_) (fun hg39 => ?_)
   ·
    refine v50 rfl ?_
    refine wN (v := .ptr 0 0 3) (wanted_t 39 (by kernel_rfl) rfl) rfl rfl (v50 rfl ?_)
    refine wN (wanted_t 39 (by kernel_rfl) rfl) rfl rfl (v50 rfl ?_)
    first | refine wN (wanted_t 39 (by kernel_rfl) rfl) rfl rfl (v50 rfl ?_) | refine x_len (wanted_t 39 (by kernel_rfl) rfl) rfl ‹_› Tryz.underlying23 rfl (v50 rfl ?_)
    refine wN (wanted_t 39 (by kernel_rfl) rfl) rfl rfl (v50 rfl ?_)
    iterate 2 refine wN rfl rfl rfl (v50 rfl ?_)
    refine w_split 45 rfl (fun hg45 => ?_) (fun hg45 => ?_)
    ·
     refine v50 rfl ?_
     refine wN (wanted_t 45 (by kernel_rfl) rfl) rfl rfl (v50 rfl ?_)
     first | refine wN (wanted_t 45 (by kernel_rfl) rfl) rfl rfl (v50 rfl ?_) | refine x_len (wanted_t 45 (by kernel_rfl) rfl) rfl ‹_› Tryz.underlying26 rfl (v50 rfl ?_)
     refine wN (wanted_t 45 (by kernel_rfl) rfl) rfl rfl (v50 rfl ?_)
     iterate 2 refine wN rfl rfl rfl (v50 rfl ?_)
     refine we rfl (vc_ret (r_fn rfl ?_))
     show some (AV.bool (decide (((lrows x).length : Int) ≤ 60))) = some (AV.bool (smallP b f))
     rw [hsm, ← hxl, ← hsl, ← hfl, hg39, hg45, Bool.true_and, Bool.true_and]
    ·
     refine v50 rfl ?_
     iterate 3 refine wS (wanted_f 45 (by kernel_rfl) rfl) (v50 rfl ?_)
     iterate 2 refine wN rfl rfl rfl (v50 rfl ?_)
     refine we rfl (vc_ret (r_fn rfl ?_))
     show some (AV.bool false) = some (AV.bool (smallP b f))
     rw [hsm, ← hxl, ← hsl, ← hfl, hg45, Bool.and_false, Bool.false_and]
   ·
    refine v50 rfl ?_
    iterate 4 refine wS (wanted_f 39 (by kernel_rfl) rfl) (v50 rfl ?_)
    iterate 2 refine wN rfl rfl rfl (v50 rfl ?_)
    iterate 3 refine wS (wanted_f 45 (by kernel_rfl) rfl) (v50 rfl ?_)
    iterate 2 refine wN rfl rfl rfl (v50 rfl ?_)
    refine we rfl (vc_ret (r_fn rfl ?_))
    show some (AV.bool false) = some (AV.bool (smallP b f))
    rw [hsm, ← hxl, ← hsl, ← hfl, hg39, Bool.false_and, Bool.false_and]
set_option maxHeartbeats 16000000 in
theorem zLaw (G : Glob) (b : PB) (hb : BaseV b) (x : AV) (f : List PI) (hx : ItemsIs x f) (text : ByteArray) : Vi.Fn Tryz.prog G 3 [.agg (encB b), x, .str text] (.bool true) := by
 have hL := hb.types.isL
 have hLs := hb.search.isL
 have htv := hb.txv
 have hsv := hb.sxv
 have hxl : (lrows b.tx).length = b.types.length := by rw [hb.types.rows]; simp
 have hXL := hx.isL
 have hfl : (lrows x).length = f.length := by rw [hx.rows]; simp
 have hxlen := hx.len
 obtain ⟨X, e, g, hre, hXI⟩ := reload_tup b (bl text)
 obtain ⟨A, B, e2, wa, wb, hst, hAL, hBL, hAr, hBr, hAl, hBl⟩ := stat_tup b f
 have hXL2 := hXI.isL
 have hs1 := zStat G b hb x f hx
 have hs2 := zRStat G b hb x f hx
 rw [hst] at hs1 hs2
 have hPL : IsL (plist (f.map encI)) := IsL_plist
 refine fn_body (fun _ => .iso) Tryz.func3 rfl ?_
 refine vc_norm (env' := (_ :: _ :: _ :: _ :: _ :: _ :: _ :: _ :: _ :: _ :: _ :: _ :: _ :: _ :: _ :: _ :: _ :: _ :: _ :: _ :: _ :: _ :: _ :: _ :: _ :: _ :: _ :: _ :: _ :: _ :: _ :: _ :: _ :: _ :: _ :: _ :: _ :: _ :: _ :: _ :: _ :: _ :: _ :: _ :: _ :: _ :: _ :: _ :: _ :: _ :: _ :: _ :: _ :: _ :: _ :: _ :: _ :: _ :: _ :: _ :: _ :: _ :: _ :: _ :: _ :: _ :: _ :: _ :: _ :: _ :: _ :: _ :: _ :: _ :: _ :: _ :: _ :: _ :: _ :: _ :: _ :: _ :: _ :: _ :: _ :: _ :: _ :: _ :: _ :: _ :: _ :: _ :: _ :: _ :: _ :: _ :: _ :: _ :: _ :: _ :: _ :: _ :: _ :: _ :: _ :: _ :: _ :: _ :: _ :: _ :: _ :: _ :: _ :: _ :: _ :: _ :: _ :: _ :: _ :: _ :: _ :: [])) (H' := []) rfl rfl ?_
 refine vs (wr ?_)
 refine w_opH (v := .ptr 0 0 0) (env' := _) (H2 := [.arr 25 4 [[_, _, _, _]]]) rfl rfl rfl rfl (fun _ h => h) (v121 rfl ?_)
 refine wN rfl rfl rfl (v121 rfl ?_)
 refine we rfl (vs (vs (wr ?_)))
 refine wN (v := .agg [_, _, _, _]) rfl rfl rfl (v121 rfl ?_)
 refine wN rfl rfl rfl (v121 rfl ?_)
 refine w_callI (env' := _) rfl rfl rfl (by kernel_rfl) rfl (by repeat' first | exact IsL.lend ‹_› | exact IsL.lend0 ‹_› | refine mapL_cons ?_ ?_ | refine lend_agg ?_ | rfl) (zSmall G b hb x f hx) rfl (v121 rfl ?_)
 iterate 2 refine wN rfl rfl rfl (v121 rfl ?_)
 refine w_split 23 rfl (fun hg23 => ?_) (fun hg23 => ?_)
 ·
  refine v121 rfl ?_
  iterate 3 refine wS (wanted_f 23 (by kernel_rfl) rfl) (v121 rfl ?_)
  iterate 2 refine wN rfl rfl rfl (v121 rfl ?_)
  iterate 3 refine wS (wanted_f 28 (by kernel_rfl) rfl) (v121 rfl ?_)
  refine wN rfl rfl rfl (v121 rfl ?_)
  refine we rfl ?_
  refine vc_true rfl ?_
  refine vs (wr ?_)
  refine w_callI (env' := _) rfl rfl rfl (by kernel_rfl) rfl (by repeat' first | exact IsL.lend ‹_› | exact IsL.lend0 ‹_› | refine mapL_cons ?_ ?_ | refine lend_agg ?_ | rfl) (zFirst G) rfl (v121 rfl ?_)
  refine wN rfl rfl rfl (v121 rfl ?_)
  refine we rfl (vc_ret (r_then (r_fn rfl ?_)))
  rfl
 ·
  refine v121 rfl ?_
  refine wN (wanted_t 23 (by kernel_rfl) rfl) rfl rfl (v121 rfl ?_)
  first | refine wN (wanted_t 23 (by kernel_rfl) rfl) rfl rfl (v121 rfl ?_) | refine x_len (wanted_t 23 (by kernel_rfl) rfl) rfl ‹_› Tryz.underlying26 rfl (v121 rfl ?_)
  refine wN (wanted_t 23 (by kernel_rfl) rfl) rfl rfl (v121 rfl ?_)
  iterate 2 refine wN rfl rfl rfl (v121 rfl ?_)
  refine w_split 28 rfl (fun hg28 => ?_) (fun hg28 => ?_)
  ·
   refine v121 rfl ?_
   iterate 3 refine wS (wanted_f 28 (by kernel_rfl) rfl) (v121 rfl ?_)
   refine wN rfl rfl rfl (v121 rfl ?_)
   refine we rfl ?_
   refine vc_true rfl ?_
   refine vs (wr ?_)
   refine w_callI (env' := _) rfl rfl rfl (by kernel_rfl) rfl (by repeat' first | exact IsL.lend ‹_› | exact IsL.lend0 ‹_› | refine mapL_cons ?_ ?_ | refine lend_agg ?_ | rfl) (zFirst G) rfl (v121 rfl ?_)
   refine wN rfl rfl rfl (v121 rfl ?_)
   refine we rfl (vc_ret (r_then (r_fn rfl ?_)))
   rfl
  ·
   refine v121 rfl ?_
   iterate 3 refine wN (wanted_t 28 (by kernel_rfl) rfl) rfl rfl (v121 rfl ?_)
   refine wN rfl rfl rfl (v121 rfl ?_)
   refine we rfl ?_
   refine vc_cond rfl (fun hc32 => ?_) (fun hc32 => ?_)
   ·
    refine vs (wr ?_)
    refine w_callI (env' := _) rfl rfl rfl (by kernel_rfl) rfl (by repeat' first | exact IsL.lend ‹_› | exact IsL.lend0 ‹_› | refine mapL_cons ?_ ?_ | refine lend_agg ?_ | rfl) (zFirst G) rfl (v121 rfl ?_)
    refine wN rfl rfl rfl (v121 rfl ?_)
    refine we rfl (vc_ret (r_then (r_fn rfl ?_)))
    rfl
   ·
    have htx : text.size ≤ 5000 := by have := of_decide_eq_false hc32; omega
    have hr1 := zReload G b hb (bl text) (by rw [← bl_size]; omega)
    have hr2 := zRReload G b hb (bl text) (by rw [← bl_size]; omega)
    rw [bs_bl, hre] at hr1 hr2
    refine vc_skip (n_then (vs (wr ?_)))
    refine wN (v := .agg [_, _, _, _]) rfl rfl rfl (v121 rfl ?_)
    refine wN rfl rfl rfl (v121 rfl ?_)
    refine w_callI (env' := _) rfl rfl rfl (by kernel_rfl) rfl (by repeat' first | exact IsL.lend ‹_› | exact IsL.lend0 ‹_› | refine mapL_cons ?_ ?_ | refine lend_agg ?_ | rfl) (zUnload G b hb x f hx) rfl (v121 rfl ?_)
    iterate 5 refine wN rfl rfl rfl (v121 rfl ?_)
    refine we rfl (vs (wr ?_))
    refine wN (v := .agg [_, _, _, _]) rfl rfl rfl (v121 rfl ?_)
    refine wN rfl rfl rfl (v121 rfl ?_)
    refine w_callI (env' := _) rfl rfl rfl (by kernel_rfl) rfl (by repeat' first | exact IsL.lend ‹_› | exact IsL.lend0 ‹_› | refine mapL_cons ?_ ?_ | refine lend_agg ?_ | rfl) (zRUnload G b hb x f hx) rfl (v121 rfl ?_)
    iterate 5 refine wN rfl rfl rfl (v121 rfl ?_)
    refine we rfl (vs (vs (wr ?_)))
    iterate 2 refine wN rfl rfl rfl (v121 rfl ?_)
    refine wN (v := .bool false) rfl (ne_self (P := Tryz.prog) (t := 9) (if forestE b f = 0 then bs (unloadL b f) else ⟨#[]⟩)) rfl (v121 rfl ?_)
    refine wN rfl rfl rfl (v121 rfl ?_)
    refine w_split 49 rfl (fun hg49 => ?_) (fun hg49 => ?_)
    ·
     cases hg49
    ·
     refine v121 rfl ?_
     iterate 3 refine wN (wanted_t 49 (by kernel_rfl) rfl) rfl rfl (v121 rfl ?_)
     refine wN rfl rfl rfl (v121 rfl ?_)
     refine we rfl ?_
     refine vc_cond rfl (fun hc53 => ?_) (fun hc53 => ?_)
     ·
      simp at hc53
     ·
      refine vc_skip (n_then (vs (vs (wr ?_))))
      iterate 2 refine wN rfl rfl rfl (v121 rfl ?_)
      refine we rfl ?_
      refine vc_cond rfl (fun hc55 => ?_) (fun hc55 => ?_)
      ·
       have hf0 : forestE b f = 0 := eq_of_beq hc55
       obtain ⟨hv, hr⟩ := forest_ok hf0
       have h200 := right_200 hr
       have hul := unload_len hv hr f.length
       rw [List.take_length] at hul
       have hrel := zReload G b hb (unloadL b f) (by omega)
       rw [reloadV, if_pos hv, round_trip hf0] at hrel
       have he : (if forestE b f = 0 then bs (unloadL b f) else ⟨#[]⟩) = bs (unloadL b f) := if_pos hf0
       rw [← he] at hrel
       refine vs (wr ?_)
       refine wN (v := .agg [_, _, _, _]) rfl rfl rfl (v121 rfl ?_)
       refine wN rfl rfl rfl (v121 rfl ?_)
       refine w_callI (env' := _) rfl rfl rfl (by kernel_rfl) rfl (by repeat' first | exact IsL.lend ‹_› | exact IsL.lend0 ‹_› | refine mapL_cons ?_ ?_ | refine lend_agg ?_ | rfl) (hrel) rfl (v121 rfl ?_)
       iterate 5 refine wN rfl rfl rfl (v121 rfl ?_)
       refine we rfl (vs (wr ?_))
       iterate 3 refine wN rfl rfl rfl (v121 rfl ?_)
       refine w_split 64 rfl (fun hg64 => ?_) (fun hg64 => ?_)
       ·
        simp at hg64
       ·
        refine v121 rfl ?_
        iterate 2 refine wN (wanted_t 64 (by kernel_rfl) rfl) rfl rfl (v121 rfl ?_)
        refine w_callI (env' := _) (wanted_t 64 (by kernel_rfl) rfl) rfl rfl (by kernel_rfl) rfl (by repeat' first | exact IsL.lend ‹_› | exact IsL.lend0 ‹_› | refine mapL_cons ?_ ?_ | refine lend_agg ?_ | rfl) (zSame G (plist (f.map encI)) x f (plist_items hx.short hxlen) hx) rfl (v121 rfl ?_)
        refine wN (wanted_t 64 (by kernel_rfl) rfl) rfl rfl (v121 rfl ?_)
        refine wN rfl rfl rfl (v121 rfl ?_)
        refine we rfl ?_
        refine vc_cond rfl (fun hc69 => ?_) (fun hc69 => ?_)
        ·
         cases hc69
        ·
         refine vc_skip (n_then (vs (wr ?_)))
         refine wN (v := .agg [_, _, _, _]) rfl rfl rfl (v121 rfl ?_)
         refine wN rfl rfl rfl (v121 rfl ?_)
         refine w_callI (env' := _) rfl rfl rfl (by kernel_rfl) rfl (by repeat' first | exact IsL.lend ‹_› | exact IsL.lend0 ‹_› | refine mapL_cons ?_ ?_ | refine lend_agg ?_ | rfl) (hr1) rfl (v121 rfl ?_)
         iterate 5 refine wN rfl rfl rfl (v121 rfl ?_)
         refine we rfl (vs (wr ?_))
         refine wN (v := .agg [_, _, _, _]) rfl rfl rfl (v121 rfl ?_)
         refine wN rfl rfl rfl (v121 rfl ?_)
         refine w_callI (env' := _) rfl rfl rfl (by kernel_rfl) rfl (by repeat' first | exact IsL.lend ‹_› | exact IsL.lend0 ‹_› | refine mapL_cons ?_ ?_ | refine lend_agg ?_ | rfl) (hr2) rfl (v121 rfl ?_)
         iterate 5 refine wN rfl rfl rfl (v121 rfl ?_)
         refine we rfl (vs (vs (wr ?_)))
         iterate 2 refine wN rfl rfl rfl (v121 rfl ?_)
         refine w_callI (env' := _) rfl rfl rfl (by kernel_rfl) rfl (by repeat' first | exact IsL.lend ‹_› | exact IsL.lend0 ‹_› | refine mapL_cons ?_ ?_ | refine lend_agg ?_ | rfl) (zSame G X X g hXI hXI) rfl (v121 rfl ?_)
         iterate 2 refine wN rfl rfl rfl (v121 rfl ?_)
         refine w_split 86 rfl (fun hg86 => ?_) (fun hg86 => ?_)
         ·
          cases hg86
         ·
          refine v121 rfl ?_
          iterate 3 refine wN (wanted_t 86 (by kernel_rfl) rfl) rfl rfl (v121 rfl ?_)
          refine wN rfl rfl rfl (v121 rfl ?_)
          refine we rfl ?_
          refine vc_cond rfl (fun hc90 => ?_) (fun hc90 => ?_)
          ·
           simp at hc90
          ·
           refine vc_skip (n_then (vs (wr ?_)))
           refine wN (v := .agg [_, _, _, _]) rfl rfl rfl (v121 rfl ?_)
           refine wN rfl rfl rfl (v121 rfl ?_)
           refine w_callI (env' := _) rfl rfl rfl (by kernel_rfl) rfl (by repeat' first | exact IsL.lend ‹_› | exact IsL.lend0 ‹_› | refine mapL_cons ?_ ?_ | refine lend_agg ?_ | rfl) (hs1) rfl (v121 rfl ?_)
           iterate 7 refine wN rfl rfl rfl (v121 rfl ?_)
           refine we rfl (vs (wr ?_))
           refine wN (v := .agg [_, _, _, _]) rfl rfl rfl (v121 rfl ?_)
           refine wN rfl rfl rfl (v121 rfl ?_)
           refine w_callI (env' := _) rfl rfl rfl (by kernel_rfl) rfl (by repeat' first | exact IsL.lend ‹_› | exact IsL.lend0 ‹_› | refine mapL_cons ?_ ?_ | refine lend_agg ?_ | rfl) (hs2) rfl (v121 rfl ?_)
           iterate 7 refine wN rfl rfl rfl (v121 rfl ?_)
           refine we rfl (vs (wr ?_))
           iterate 2 refine wN rfl rfl rfl (v121 rfl ?_)
           refine w_callI (env' := _) rfl rfl rfl (by kernel_rfl) rfl (by repeat' first | exact IsL.lend ‹_› | exact IsL.lend0 ‹_› | refine mapL_cons ?_ ?_ | refine lend_agg ?_ | rfl) (zSameInts G A A wa hAL hAL hAr hAr hAl) rfl (v121 rfl ?_)
           refine wN rfl rfl rfl (v121 rfl ?_)
           refine w_split 108 rfl (fun hg108 => ?_) (fun hg108 => ?_)
           ·
            refine v121 rfl ?_
            iterate 2 refine wN (wanted_t 108 (by kernel_rfl) rfl) rfl rfl (v121 rfl ?_)
            refine w_callI (env' := _) (wanted_t 108 (by kernel_rfl) rfl) rfl rfl (by kernel_rfl) rfl (by repeat' first | exact IsL.lend ‹_› | exact IsL.lend0 ‹_› | refine mapL_cons ?_ ?_ | refine lend_agg ?_ | rfl) (zSameInts G B B wb hBL hBL hBr hBr hBl) rfl (v121 rfl ?_)
            iterate 2 refine wN rfl rfl rfl (v121 rfl ?_)
            refine w_split 113 rfl (fun hg113 => ?_) (fun hg113 => ?_)
            ·
             refine v121 rfl ?_
             iterate 3 refine wN (wanted_t 113 (by kernel_rfl) rfl) rfl rfl (v121 rfl ?_)
             iterate 2 refine wN rfl rfl rfl (v121 rfl ?_)
             refine w_split 118 rfl (fun hg118 => ?_) (fun hg118 => ?_)
             ·
              refine v121 rfl ?_
              refine w_callI (env' := _) (wanted_t 118 (by kernel_rfl) rfl) rfl rfl (by kernel_rfl) rfl (by repeat' first | exact IsL.lend ‹_› | exact IsL.lend0 ‹_› | refine mapL_cons ?_ ?_ | refine lend_agg ?_ | rfl) (zFirst G) rfl (v121 rfl ?_)
              iterate 2 refine wN rfl rfl rfl (v121 rfl ?_)
              refine we rfl (vc_ret (r_fn rfl ?_))
              rfl
             ·
              simp at hg118
            ·
             cases hg113
           ·
            cases hg108
      ·
       refine vc_skip (n_then (vs (wr ?_)))
       refine wN (v := .agg [_, _, _, _]) rfl rfl rfl (v121 rfl ?_)
       refine wN rfl rfl rfl (v121 rfl ?_)
       refine w_callI (env' := _) rfl rfl rfl (by kernel_rfl) rfl (by repeat' first | exact IsL.lend ‹_› | exact IsL.lend0 ‹_› | refine mapL_cons ?_ ?_ | refine lend_agg ?_ | rfl) (hr1) rfl (v121 rfl ?_)
       iterate 5 refine wN rfl rfl rfl (v121 rfl ?_)
       refine we rfl (vs (wr ?_))
       refine wN (v := .agg [_, _, _, _]) rfl rfl rfl (v121 rfl ?_)
       refine wN rfl rfl rfl (v121 rfl ?_)
       refine w_callI (env' := _) rfl rfl rfl (by kernel_rfl) rfl (by repeat' first | exact IsL.lend ‹_› | exact IsL.lend0 ‹_› | refine mapL_cons ?_ ?_ | refine lend_agg ?_ | rfl) (hr2) rfl (v121 rfl ?_)
       iterate 5 refine wN rfl rfl rfl (v121 rfl ?_)
       refine we rfl (vs (vs (wr ?_)))
       iterate 2 refine wN rfl rfl rfl (v121 rfl ?_)
       refine w_callI (env' := _) rfl rfl rfl (by kernel_rfl) rfl (by repeat' first | exact IsL.lend ‹_› | exact IsL.lend0 ‹_› | refine mapL_cons ?_ ?_ | refine lend_agg ?_ | rfl) (zSame G X X g hXI hXI) rfl (v121 rfl ?_)
       iterate 2 refine wN rfl rfl rfl (v121 rfl ?_)
       refine w_split 86 rfl (fun hg86 => ?_) (fun hg86 => ?_)
       ·
        cases hg86
       ·
        refine v121 rfl ?_
        iterate 3 refine wN (wanted_t 86 (by kernel_rfl) rfl) rfl rfl (v121 rfl ?_)
        refine wN rfl rfl rfl (v121 rfl ?_)
        refine we rfl ?_
        refine vc_cond rfl (fun hc90 => ?_) (fun hc90 => ?_)
        ·
         simp at hc90
        ·
         refine vc_skip (n_then (vs (wr ?_)))
         refine wN (v := .agg [_, _, _, _]) rfl rfl rfl (v121 rfl ?_)
         refine wN rfl rfl rfl (v121 rfl ?_)
         refine w_callI (env' := _) rfl rfl rfl (by kernel_rfl) rfl (by repeat' first | exact IsL.lend ‹_› | exact IsL.lend0 ‹_› | refine mapL_cons ?_ ?_ | refine lend_agg ?_ | rfl) (hs1) rfl (v121 rfl ?_)
         iterate 7 refine wN rfl rfl rfl (v121 rfl ?_)
         refine we rfl (vs (wr ?_))
         refine wN (v := .agg [_, _, _, _]) rfl rfl rfl (v121 rfl ?_)
         refine wN rfl rfl rfl (v121 rfl ?_)
         refine w_callI (env' := _) rfl rfl rfl (by kernel_rfl) rfl (by repeat' first | exact IsL.lend ‹_› | exact IsL.lend0 ‹_› | refine mapL_cons ?_ ?_ | refine lend_agg ?_ | rfl) (hs2) rfl (v121 rfl ?_)
         iterate 7 refine wN rfl rfl rfl (v121 rfl ?_)
         refine we rfl (vs (wr ?_))
         iterate 2 refine wN rfl rfl rfl (v121 rfl ?_)
         refine w_callI (env' := _) rfl rfl rfl (by kernel_rfl) rfl (by repeat' first | exact IsL.lend ‹_› | exact IsL.lend0 ‹_› | refine mapL_cons ?_ ?_ | refine lend_agg ?_ | rfl) (zSameInts G A A wa hAL hAL hAr hAr hAl) rfl (v121 rfl ?_)
         refine wN rfl rfl rfl (v121 rfl ?_)
         refine w_split 108 rfl (fun hg108 => ?_) (fun hg108 => ?_)
         ·
          refine v121 rfl ?_
          iterate 2 refine wN (wanted_t 108 (by kernel_rfl) rfl) rfl rfl (v121 rfl ?_)
          refine w_callI (env' := _) (wanted_t 108 (by kernel_rfl) rfl) rfl rfl (by kernel_rfl) rfl (by repeat' first | exact IsL.lend ‹_› | exact IsL.lend0 ‹_› | refine mapL_cons ?_ ?_ | refine lend_agg ?_ | rfl) (zSameInts G B B wb hBL hBL hBr hBr hBl) rfl (v121 rfl ?_)
          iterate 2 refine wN rfl rfl rfl (v121 rfl ?_)
          refine w_split 113 rfl (fun hg113 => ?_) (fun hg113 => ?_)
          ·
           refine v121 rfl ?_
           iterate 3 refine wN (wanted_t 113 (by kernel_rfl) rfl) rfl rfl (v121 rfl ?_)
           iterate 2 refine wN rfl rfl rfl (v121 rfl ?_)
           refine w_split 118 rfl (fun hg118 => ?_) (fun hg118 => ?_)
           ·
            refine v121 rfl ?_
            refine w_callI (env' := _) (wanted_t 118 (by kernel_rfl) rfl) rfl rfl (by kernel_rfl) rfl (by repeat' first | exact IsL.lend ‹_› | exact IsL.lend0 ‹_› | refine mapL_cons ?_ ?_ | refine lend_agg ?_ | rfl) (zFirst G) rfl (v121 rfl ?_)
            iterate 2 refine wN rfl rfl rfl (v121 rfl ?_)
            refine we rfl (vc_ret (r_fn rfl ?_))
            rfl
           ·
            simp at hg118
          ·
           cases hg113
         ·
          cases hg108
end Go.Vi
namespace Go.Vi
open Go Go.Vi Go.Proofs
section
variable {P : Program} {f : Nat} {t : TypeId} {xs : List AV}
theorem shp_int {k : IntKind} (hu : P.underlying t = some (.int k)) (h : Shp P f t xs) : ∃ n, xs = [.int k n] := by
 cases f with
 | zero => exact h.elim
 | succ f =>
   unfold Shp at h
   rw [hu] at h
   obtain ⟨n, h1, _⟩ := h
   exact ⟨n, h1⟩
theorem shp_bool (hu : P.underlying t = some .bool) (h : Shp P f t xs) : ∃ b, xs = [.bool b] := by
 cases f with
 | zero => exact h.elim
 | succ f =>
   unfold Shp at h
   rw [hu] at h
   exact h
theorem shp_str (hu : P.underlying t = some .string) (h : Shp P f t xs) : ∃ s : ByteArray, xs = [.str s] ∧ s.size < 9223372036854775808 := by
 cases f with
 | zero => exact h.elim
 | succ f =>
   unfold Shp at h
   rw [hu] at h
   obtain ⟨s, h1, h2⟩ := h
   exact ⟨s, h1, by simp only [maxLen] at h2; omega⟩
theorem shp_slice {e : TypeId} (hu : P.underlying t = some (.slice e)) (h : Shp P (f + 1) t xs) : ∃ x, xs = [x] ∧ IsL x ∧ x.isVal = true ∧ (lrows x).length < 9223372036854775808 ∧ ∀ r ∈ lrows x, Shp P f e r := by
 unfold Shp at h
 rw [hu] at h
 rcases h with rfl | ⟨rows, rfl, h1, h2⟩
 · exact ⟨_, rfl, .inl rfl, rfl, by simp [lrows], fun r hr => by simp [lrows] at hr⟩
 · refine ⟨_, rfl, .inr ⟨_, _, rfl⟩, rfl, ?_, fun r hr => (h2 r hr).2⟩
   show rows.length < _
   simp only [maxLen] at h1
   omega
theorem shp_struct {fs : Array Field} (hu : P.underlying t = some (.struct fs)) (h : Shp P (f + 1) t xs) : fieldsS P (Shp P f) fs.toList xs := by
 unfold Shp at h
 rw [hu] at h
 exact h
end
theorem fs_cons {P : Program} {R : TypeId → List AV → Prop} {x : Field} {r : List Field} {xs : List AV} (h : fieldsS P R (x :: r) xs) : ∃ p q, xs = p ++ q ∧ R x.type p ∧ fieldsS P R r q := by
 obtain ⟨p, q, h1, _, h2, h3⟩ := h
 exact ⟨p, q, h1, h2, h3⟩
theorem fs_nil {P : Program} {R : TypeId → List AV → Prop} {xs : List AV} (h : fieldsS P R [] xs) : xs = [] := h
theorem rows_of {α : Type} {enc : α → List AV} {good : α → Prop} : ∀ {rows : List (List AV)}, (∀ r ∈ rows, ∃ a, r = enc a ∧ good a) → ∃ l : List α, rows = l.map enc ∧ ∀ a ∈ l, good a
 | [], _ => ⟨[], rfl, fun a h => by cases h⟩
 | r :: rest, h => by
   obtain ⟨a, rfl, ha⟩ := h r (by simp)
   obtain ⟨l, rfl, hl⟩ := rows_of (rows := rest) (fun r hr => h r (by simp [hr]))
   refine ⟨a :: l, rfl, fun x hx => ?_⟩
   rcases List.mem_cons.1 hx with rfl | hx
   · exact ha
   · exact hl x hx
theorem field_of {f : Nat} {xs : List AV} (h : Shp Tryz.prog (f + 1) 117 xs) : ∃ a : PF, xs = encF a ∧ a.name.size < 9223372036854775808 := by
 obtain ⟨p1, q1, rfl, h1, h⟩ := fs_cons (shp_struct Tryz.underlying117 h)
 obtain ⟨p2, q2, rfl, h2, h⟩ := fs_cons h
 obtain ⟨p3, q3, rfl, h3, h⟩ := fs_cons h
 obtain rfl := fs_nil h
 obtain ⟨n, rfl, hn⟩ := shp_str Tryz.underlying9 h1
 obtain ⟨a, rfl⟩ := shp_int Tryz.underlying3 h2
 obtain ⟨c, rfl⟩ := shp_int Tryz.underlying3 h3
 exact ⟨⟨n, a, c⟩, rfl, hn⟩
theorem fields_of {f : Nat} {xs : List AV} (h : Shp Tryz.prog (f + 2) 60 xs) : ∃ x fs, xs = [x] ∧ x.isVal = true ∧ FieldsIs x fs := by
 obtain ⟨x, rfl, c1, c2, c3, c4⟩ := shp_slice Tryz.underlying60 h
 obtain ⟨fs, e, hg⟩ := rows_of (enc := encF) (good := fun a => a.name.size < 9223372036854775808) (fun r hr => field_of (c4 r hr))
 exact ⟨x, fs, rfl, c2, c1, e, hg, by rw [e] at c3; simpa using c3⟩
theorem type_of {f : Nat} {xs : List AV} (h : Shp Tryz.prog (f + 3) 62 xs) : ∃ t : PT, xs = encT t ∧ TypeIs t ∧ t.fx.isVal = true := by
 obtain ⟨p1, q1, rfl, h1, h⟩ := fs_cons (shp_struct Tryz.underlying62 h)
 obtain ⟨p2, q2, rfl, h2, h⟩ := fs_cons h
 obtain ⟨p3, q3, rfl, h3, h⟩ := fs_cons h
 obtain ⟨p4, q4, rfl, h4, h⟩ := fs_cons h
 obtain ⟨p5, q5, rfl, h5, h⟩ := fs_cons h
 obtain ⟨p6, q6, rfl, h6, h⟩ := fs_cons h
 obtain ⟨p7, q7, rfl, h7, h⟩ := fs_cons h
 obtain ⟨p8, q8, rfl, h8, h⟩ := fs_cons h
 obtain rfl := fs_nil h
 obtain ⟨n, rfl, hn⟩ := shp_str Tryz.underlying9 h1
 obtain ⟨a2, rfl⟩ := shp_int Tryz.underlying3 h2
 obtain ⟨a3, rfl⟩ := shp_int Tryz.underlying3 h3
 obtain ⟨a4, rfl⟩ := shp_int Tryz.underlying3 h4
 obtain ⟨fx, fs, rfl, hv, hf⟩ := fields_of h5
 obtain ⟨a6, rfl⟩ := shp_int Tryz.underlying3 h6
 obtain ⟨a7, rfl⟩ := shp_bool Tryz.underlying4 h7
 obtain ⟨a8, rfl⟩ := shp_bool Tryz.underlying4 h8
 exact ⟨⟨n, a2, a3, a4, fs, fx, a6, a7, a8⟩, rfl, ⟨hn, hf⟩, hv⟩
theorem search_of {f : Nat} {xs : List AV} (h : Shp Tryz.prog (f + 1) 136 xs) : ∃ s : PS, xs = encS s ∧ s.name.size < 9223372036854775808 := by
 obtain ⟨p1, q1, rfl, h1, h⟩ := fs_cons (shp_struct Tryz.underlying136 h)
 obtain ⟨p2, q2, rfl, h2, h⟩ := fs_cons h
 obtain ⟨p3, q3, rfl, h3, h⟩ := fs_cons h
 obtain ⟨p4, q4, rfl, h4, h⟩ := fs_cons h
 obtain rfl := fs_nil h
 obtain ⟨n, rfl, hn⟩ := shp_str Tryz.underlying9 h1
 obtain ⟨a2, rfl⟩ := shp_int Tryz.underlying3 h2
 obtain ⟨a3, rfl⟩ := shp_int Tryz.underlying3 h3
 obtain ⟨m, rfl, hm⟩ := shp_str Tryz.underlying9 h4
 exact ⟨⟨n, a2, a3, m⟩, rfl, hn⟩
theorem base_of {a : AV} (h : ArgIs Tryz.prog 8 25 a) : ∃ b : PB, a = .agg (encB b) ∧ BaseV b := by
 obtain ⟨f, xs, hf, h1, h2, h3⟩ := h
 obtain ⟨f, rfl⟩ : ∃ g, f = g + 6 := ⟨f - 6, by omega⟩
 obtain ⟨p1, q1, rfl, s1, s⟩ := fs_cons (shp_struct (f := f + 5) Tryz.underlying25 h1)
 obtain ⟨p2, q2, rfl, s2, s⟩ := fs_cons s
 obtain ⟨p3, q3, rfl, s3, s⟩ := fs_cons s
 obtain ⟨p4, q4, rfl, s4, s⟩ := fs_cons s
 obtain rfl := fs_nil s
 obtain ⟨n, rfl, hn⟩ := shp_str Tryz.underlying9 s1
 obtain ⟨k, rfl⟩ := shp_int Tryz.underlying3 s2
 obtain ⟨tx, rfl, c1, c2, c3, c4⟩ := shp_slice (f := f + 4) Tryz.underlying22 s3
 obtain ⟨sx, rfl, d1, d2, d3, d4⟩ := shp_slice (f := f + 4) Tryz.underlying23 s4
 obtain ⟨ts, e1, g1⟩ := rows_of (enc := encT) (good := fun t => TypeIs t ∧ t.fx.isVal = true) (fun r hr => type_of (f := f + 1) (c4 r hr))
 obtain ⟨ss, e2, g2⟩ := rows_of (enc := encS) (good := fun s => s.name.size < 9223372036854775808) (fun r hr => search_of (f := f + 3) (d4 r hr))
 simp only [argOf, Tryz.underlying25] at h2
 cases h2
 exact ⟨⟨n, k, ts, tx, ss, sx⟩, rfl, ⟨⟨hn, ⟨c1, e1, fun t ht => (g1 t ht).1, fun t ht => (g1 t ht).2, by rw [e1] at c3; simpa using c3⟩, ⟨d1, e2, g2, by rw [e2] at d3; simpa using d3⟩⟩, c2, d2⟩⟩
theorem item_of {f : Nat} {xs : List AV} (h : Shp Tryz.prog (f + 1) 64 xs) : ∃ y : PI, xs = encI y ∧ y.data.size < 9223372036854775808 := by
 obtain ⟨p1, q1, rfl, h1, h⟩ := fs_cons (shp_struct Tryz.underlying64 h)
 obtain ⟨p2, q2, rfl, h2, h⟩ := fs_cons h
 obtain rfl := fs_nil h
 obtain ⟨a, rfl⟩ := shp_int Tryz.underlying3 h1
 obtain ⟨n, rfl, hn⟩ := shp_str Tryz.underlying9 h2
 exact ⟨⟨a, n⟩, rfl, hn⟩
theorem items_of {a : AV} (h : ArgIs Tryz.prog 8 26 a) : ∃ f, ItemsIs a f := by
 obtain ⟨f, xs, hf, h1, h2, h3⟩ := h
 obtain ⟨f, rfl⟩ : ∃ g, f = g + 6 := ⟨f - 6, by omega⟩
 obtain ⟨x, rfl, c1, c2, c3, c4⟩ := shp_slice (f := f + 5) Tryz.underlying26 h1
 obtain ⟨l, e1, g1⟩ := rows_of (enc := encI) (good := fun y => y.data.size < 9223372036854775808) (fun r hr => item_of (f := f + 4) (c4 r hr))
 simp only [argOf, Tryz.underlying26] at h2
 cases h2
 exact ⟨l, c1, e1, g1, by rw [e1] at c3; simpa using c3⟩
theorem text_of {a : AV} (h : ArgIs Tryz.prog 8 9 a) : ∃ s, a = .str s := by
 obtain ⟨f, xs, hf, h1, h2, h3⟩ := h
 obtain ⟨s, rfl, _⟩ := shp_str Tryz.underlying9 h1
 simp only [argOf, Tryz.underlying9] at h2
 cases h2
 exact ⟨s, rfl⟩
end Go.Vi
namespace Go.Proofs.YtenfndlbldffgaaGreatDoor
open Go.ChangeShapes Go.WideShapes Go.ChangeAt Go.RowKit
theorem Tryz.own : ownKnob Tryz.prog.godebug = none := by kernel_rfl
theorem Tryz.laidOut : laidOutB Tryz.prog = true := by kernel_rfl
theorem plain3 : ∀ t ∈ Tryz.f3.params.toList, ∀ f, 8 ≤ f → Vi.plainT Tryz.prog f t = true := by
 rw [Tryz.params3]
 simp only [List.mem_cons, List.not_mem_nil, or_false]
 rintro t (rfl | rfl | rfl) <;> exact Vi.plainT_le (by kernel_rfl)
theorem read3 : ∀ t ∈ Tryz.f3.params.toList, Tryz.prog.readableRec t = true ∧ t < Tryz.prog.types.size := by
 rw [Tryz.params3]
 simp only [List.mem_cons, List.not_mem_nil, or_false]
 rintro t (rfl | rfl | rfl) <;> exact ⟨by kernel_rfl, of_decide_eq_true (by kernel_rfl)⟩
theorem retv_bool {H : Vi.Hp} {r : Vi.AV} {b : Bool} (h : Vi.retv H r = some (.bool b)) : r = .bool b := by
 have key : ∀ x, Vi.retD 3 H x = some (.bool b) → x = .bool b := by
  intro x hx
  unfold Vi.retD at hx
  split at hx
  · split at hx
    · obtain ⟨_, _, h2⟩ := Option.map_eq_some_iff.1 hx
      cases h2
    · cases hx
  · split at hx
    · split at hx
      · obtain ⟨_, _, h2⟩ := Option.map_eq_some_iff.1 hx
        cases h2
      · cases hx
    · cases hx
  · split at hx
    · exact Option.some.inj hx
    · cases hx
 unfold Vi.retv at h
 split at h
 · obtain ⟨_, _, h2⟩ := Option.map_eq_some_iff.1 h
   cases h2
 · unfold Vi.ret1 at h
   split at h
   · obtain ⟨_, _, h2⟩ := Option.map_eq_some_iff.1 h
     cases h2
   · exact key _ h
theorem xs_law (a0 a1 a2 : Vi.AV) (h0 : Vi.ArgIs Tryz.prog 8 25 a0) (h1 : Vi.ArgIs Tryz.prog 8 26 a1) (h2 : Vi.ArgIs Tryz.prog 8 9 a2) : Vi.XS Tryz.prog (fun _ => none) 3 [a0, a1, a2] [] (fun r _ => r = .bool true) := by
 obtain ⟨b, rfl, hb⟩ := Vi.base_of h0
 obtain ⟨f, hx⟩ := Vi.items_of h1
 obtain ⟨s, rfl⟩ := Vi.text_of h2
 refine Vi.XS.mono (Vi.zLaw (fun _ => none) b hb a1 f hx s) ?_
 intro r H h
 exact retv_bool h
theorem door_met (os : Os) (args : Array Value) : laidMetH Tryz.prog Rows.careTextsRow.laid ((World.laidAll Tryz.prog os Rows.careTextsRow.laid).forCall (fun _ _ => 0) ⟨#[], args, []⟩).memory := by
 rw [MakeChecks.laidMetH_plain _ _ _ (by kernel_rfl)]
 exact laidMet_laidAll _ (by kernel_rfl) (by kernel_rfl)
set_option maxRecDepth 100000 in
theorem careTexts_lifted (os : Os) (started : os.Started) (H : Type) (enc : TypeId × Value → H) :
 ReturnsInHanded {} Tryz.checked os 3 .any (fun w args => (Rows.careTextsSpec.pre enc Tryz.prog Tryz.f3 [] false w args ∧ laidMetH Tryz.prog Rows.careTextsRow.laid w) ∧ sizedMet enc Tryz.prog Tryz.f3 (OpenSpec.ofChange Rows.careTextsSpec) false w args)
  (Rows.careTextsSpec.post enc Tryz.prog Tryz.f3 false true false false) := by
 refine returnsInHanded_of_change_and (C := Tryz.checked) (X := fun w _ => laidMetH Tryz.prog Rows.careTextsRow.laid w) (fun _ _ _ hh h => h.of_heap hh) Tryz.own started (by kernel_rfl) Tryz.func3
  (ChangeSpec.witness_shaped (enc := enc) (C := Tryz.checked) (os := os) (X := fun w _ => laidMetH Tryz.prog Rows.careTextsRow.laid w) false (World.laidAll Tryz.prog os Rows.careTextsRow.laid) #[.agg #[.string ⟨#[]⟩, .int .i64 0, .slice none 0 0, .slice none 0 0], .slice none 0 0, .string ⟨#[]⟩] 8 (World.laidAll_os _ _ _)
   (World.shaped_of_ZipB (by kernel_rfl) (by kernel_rfl)) (by kernel_rfl) (by kernel_rfl) (by kernel_rfl) (door_met os _)) ?_
 intro W base args ds gs before hval0 hW _ _ hL _
 have hval : ∀ (j : Nat) t v, Tryz.f3.params[j]? = some t → args[j]? = some v → Value.okWide Tryz.prog W .any base t v := hval0
 have hW' := hW
 obtain ⟨p, q, hA0, hV, rfl, hfz, hnd⟩ := hW
 have hA : DataW.TrodAll enc Tryz.prog W 0 (fun _ => true) true Tryz.f3.params.toList args.toList ds p := hA0
 rw [Tryz.params3] at hA hval
 obtain ⟨v0, ds0, d0, dr0, p0, q0, e0, rfl, rfl, h0, hA⟩ := trodAll_cons hA
 obtain ⟨v1, ds1, d1, dr1, p1, q1, rfl, rfl, rfl, h1, hA⟩ := trodAll_cons hA
 obtain ⟨v2, ds2, d2, dr2, p2, q2, rfl, rfl, rfl, h2, hA⟩ := trodAll_cons hA
 obtain ⟨rfl, rfl, rfl⟩ := trodAll_nil hA
 obtain ⟨rfl, rfl⟩ := trodVars_none hV
 have eargs : args = #[v0, v1, v2] := by apply Array.ext'; simpa using e0
 subst eargs
 have pl := plain3
 rw [Tryz.params3] at pl
 obtain ⟨a0, b0, r0⟩ := Vi.arg_bridge (F := 8) (pl 25 (by simp)) (hval 0 25 v0 rfl rfl) h0
 obtain ⟨a1, b1, r1⟩ := Vi.arg_bridge (F := 8) (pl 26 (by simp)) (hval 1 26 v1 rfl rfl) h1
 obtain ⟨a2, b2, r2⟩ := Vi.arg_bridge (F := 8) (pl 9 (by simp)) (hval 2 9 v2 rfl rfl) h2
 refine (Vi.law_calls (W := W) (xs_law a0 a1 a2 b0 b1 b2) (Vs := [v0, v1, v2]) rfl (fun j x V hx hV => by
  match j with
  | 0 => simp at hx hV; subst hx; subst hV; exact r0
  | 1 => simp at hx hV; subst hx; subst hV; exact r1
  | 2 => simp at hx hV; subst hx; subst hV; exact r2
  | j + 3 => simp at hx)).mono fun e W' ⟨he, hb⟩ => ?_
 subst he
 exact ⟨_, rfl, Vi.post_law hW' rfl rfl Tryz.laidOut read3 (by kernel_rfl) (show Tryz.prog.underlying 4 = some .bool by kernel_rfl) hb⟩
theorem careTexts_holds : Rows.CareTextsSaid :=
 OpenClaim.holds_of_wide 3 Tryz.f3 rfl rfl rfl rfl rfl rfl rfl ⟨rfl, rfl, rfl, rfl, rfl⟩ rfl rfl rfl rfl rfl (by kernel_rfl) Tryz.func3 (by kernel_rfl)
  (of_decide_eq_true (by kernel_rfl)) (by unfold Func.isWrapper; first | (rw [if_pos (by decide +kernel)]; kernel_rfl) | (rw [if_neg (by decide +kernel)]; exact ⟨rfl, rfl⟩))
  (fun os started H enc _ => careTexts_lifted os started H enc)
theorem card_holds : Rows.CareTextsCardSaid :=
 Claim7.holds_tied_plain_at .later [] [.data, .data, .data, .data, .pinned] true (true, "aab043e679cebf1a7cd0e92de037bf74bde2b1c8de19ceabe12898062505750c") false
  careTexts_holds (fun _ h => by cases h) (by kernel_rfl) (fun _ h => by cases h) careTexts_row_tie rfl ⟨rfl, rfl⟩ (by kernel_rfl) rfl
  (fun f fn hf hfn => by
   obtain rfl : f = 3 := Option.some.inj ((show Tryz.prog.funcNamed "progeny/progenylaw29.CareTexts" = some 3 by kernel_rfl).symm.trans hf) |>.symm
   obtain rfl : fn = Tryz.f3 := (Option.some.inj (Tryz.func3.symm.trans hfn)).symm
   exact ⟨by kernel_rfl, fun j t ht => by
    rw [Tryz.params3] at ht
    have hm : t ∈ [25, 26, 9] := by simpa using Array.mem_of_getElem? ht
    have hall : ([25, 26, 9].all fun u => !Tryz.prog.wantsStandIn u) = true := by kernel_rfl
    exact (show Tryz.prog.wantsStandIn t = false by simpa using List.all_eq_true.1 hall t hm)⟩)
  (by kernel_rfl)
#print axioms card_holds
end Go.Proofs.YtenfndlbldffgaaGreatDoor
