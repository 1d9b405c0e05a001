/- Part of the proofs of the tied cards of Care: the texts CyG CyH CyI CyJ CyK CyM CyN CzFirst CyL CyQ CyO CyP CyR CyS CyU. Conditions: none of its own. -/
import Derived.Test.YtenfndlbldffgaaGreatDoorHg
import Derived.Test.YtenfndlbldffgaaGreatDoorHd
import Derived.KernelRfl
import Derived.Test.YtenfndlbldffgaaGreatDoorProg
set_option autoImplicit false
set_option linter.unusedVariables false
set_option linter.unusedSimpArgs false
set_option maxRecDepth 100000
namespace Go.Vi
open Go Go.Vi Go.Proofs
attribute [local irreducible] vops vopsD vc
namespace Lay
theorem z108 : zrOf Tryz.prog 108 = some (.agg [.int .i64 0, .int .i64 0, .nils]) := by kernel_rfl
theorem sz108 : szOf Tryz.prog 108 = some 3 := by kernel_rfl
theorem WInv.layStep {base Hx : Hp} {q L n : Nat} {locs : List Nat} {last0 : Int} {sh : List Sheet} {l : Nat} {s : Sheet} {pg a : Int} {b : AV} (h : WInv base Hx q L locs last0 n sh) (hok : ShOk sh) (hk : okP [.int .i64 pg, .int .i64 a, b] = true) (hl : locs[pg.toNat]? = some l) (hs : sh[pg.toNat]? = some s) :
 WInv base (Hx.set l (.arr 5 1 (lay s.1 a.toNat (lrows b)))) q L locs last0 n (layP sh [.int .i64 pg, .int .i64 a, b]) := by
 have hb := okP_bounds hk
 have h128 := (hok s (List.mem_of_getElem? hs)).1
 have e : layP sh [.int .i64 pg, .int .i64 a, b] = sh.set pg.toNat (lay s.1 a.toNat (lrows b), s.2) := updS_at hs
 rw [e]
 exact h.byte hl hs (lay_length (by omega))
theorem WInv.stampStep {base Hx : Hp} {q L n : Nat} {locs : List Nat} {last0 : Int} {sh : List Sheet} {l : Nat} {s : Sheet} {pg k : Int} {rows : List (List AV)} (h : WInv base Hx q L locs last0 n sh) (hr : Hx[L]? = some (.arr 95 2 rows)) (hl : locs[pg.toNat]? = some l) (hs : sh[pg.toNat]? = some s) :
 WInv base (Hx.set L (.arr 95 2 (rows.set pg.toNat [.row false l 0 s.1.length, .int .i64 k]))) q L locs last0 n (stampP sh ([.int .i64 pg], [.int .i64 k])) := by
 have e : stampP sh ([.int .i64 pg], [.int .i64 k]) = sh.set pg.toNat (s.1, k) := updS_at hs
 rw [e]
 exact h.stamp hr hl hs
theorem foldl_take {α β : Type} {f : β → α → β} {b : β} {l : List α} {i : Nat} {x : α} (h : l[i]? = some x) : (l.take (i + 1)).foldl f b = f ((l.take i).foldl f b) x := by
 obtain ⟨h1, h2⟩ := List.getElem?_eq_some_iff.1 h
 rw [List.take_add_one, h]
 simp [List.foldl_append]
theorem foldl_all {α β : Type} {f : β → α → β} {b : β} {l : List α} {i : Nat} (h : l.length ≤ i) : (l.take i).foldl f b = l.foldl f b := by
 rw [List.take_of_length_le h]
theorem ShOk.stampAll : ∀ (l : List (List AV × List AV)) (sh : List Sheet), ShOk sh → ShOk (l.foldl stampP sh)
 | [], sh, h => h
 | r::l, sh, h => ShOk.stampAll l _ h.stamp
theorem piece_val {r : List AV} (h : PieceOk r) : Bs (pBy r) := by
 obtain ⟨pg, a, b, rfl, hL, h1, h2⟩ := h
 exact h2
set_option maxHeartbeats 16000000 in
theorem t6d (G : Glob) (last0 last : Int) (l st : AV) (tg : Tg) (rows : List (List AV)) (hv : (AV.list tg rows).isVal = true) (hl : IsL l) (hS : IsL st) (hlen : (rows).length < 9223372036854775808) (hll : (lrows l).length ≤ 100000) (hsl : (lrows st).length ≤ 1000) (hp : ∀ r ∈ rows, PageOk r) (hpl : ∀ r ∈ lrows l, PieceOk r) (hps : ∀ r ∈ lrows st, ∃ k, r = [.int .i64 k]) (hval : validB last0 rows = true) (pgs : List (List AV)) (hsc : scan none (lrows l) = some pgs) (hbad : badW last0 last pgs (lrows st) = false) : Vi.Fn Tryz.prog G 31 [.agg [.int .i64 last0, .list tg rows], l, st, .int .i64 last] (okR last (withOk rows (lrows l) pgs (lrows st))) := by
 have h12 : Vi.Fn Tryz.prog G 66 [l] (.tup [plist pgs, .bool true]) := by
  have := t12 G l hl hll hpl
  rw [pieces, hsc] at this
  exact this
 have hPL : IsL (plist pgs) := IsL_plist
 have hL : IsL (.list tg rows) := .inr ⟨tg, rows, rfl⟩
 obtain ⟨hn120, hne, hPI, hSh⟩ := valid_pages hval hp
 obtain ⟨hok, hpg⟩ := scan_ok _ _ _ hsc
 have hzl : (lrows st).length = pgs.length := by simp only [badW, Bool.or_eq_false_iff, bne_eq_false_iff_eq] at hbad; omega
 refine fn_body (fun o => match o.dst with | some 52 => .shr | _ => .iso) Tryz.func31 rfl ?_
 refine vc_norm (env' := (_::_::_::_::_::_::_::_::_::_::_::_::_::_::_::_::_::_::_::_::_::_::_::_::_::_::_::_::_::_::_::_::_::_::_::_::_::_::_::_::_::_::_::_::_::_::_::_::_::_::_::_::_::_::_::_::_::_::_::_::_::_::_::_::_::_::_::_::_::_::_::_::_::_::_::_::_::_::_::_::_::_::_::_::_::_::_::_::_::_::_::_::_::[])) (H' := []) rfl rfl ?_
 refine vs (wr ?_)
 refine w_opH (v := .ptr 0 0 0) (env' := _) (H2 := [.arr 42 2 [[_, _]]]) rfl rfl rfl rfl (fun _ h => h) (v93 rfl ?_)
 refine w_opH (v := .ptr 1 0 0) (env' := _) (H2 := [.arr 42 2 [[_, _]], .arr 3 1 [[_]]]) rfl rfl rfl rfl (fun _ h => h) (v93 rfl ?_)
 refine w_opH (v := .ptr 2 0 0) (env' := _) (H2 := [.arr 42 2 [[_, _]], .arr 3 1 [[_]], .arr 42 2 [[_, _]]]) rfl rfl rfl rfl (fun _ h => h) (v93 rfl ?_)
 refine wN rfl rfl rfl (v93 rfl ?_)
 refine we rfl (vs (vs (wr ?_)))
 refine wN (v := .agg [_, _]) rfl rfl rfl (v93 rfl ?_)
 refine w_callI (env' := _) rfl rfl rfl (by kernel_rfl) rfl (by repeat' first | exact mapL_nil | exact IsL.lend ‹_› | exact IsL.lend0 ‹_› | refine mapL_cons ?_ ?_ | refine mapL_app ?_ ?_ | refine lend_agg ?_ | refine lend_cloG ?_ | exact lend0_ptr rfl rfl (by first | (simp [AV.isVal, *]; done) | (simp [isVal_int, isVal_bool, isVal_str, isVal_nils, *]; done)) | exact lend_ptr rfl rfl (by first | (simp [AV.isVal, *]; done) | (simp [isVal_int, isVal_bool, isVal_str, isVal_nils, *]; done)) | rfl) (t11 G last0 (.list tg rows) hL hv hlen (fun r hr => by obtain ⟨b, s, rfl, hb⟩ := hp r hr; exact ⟨b, s, rfl, hb.1⟩)) rfl (v93 rfl ?_)
 refine wN rfl rfl rfl (v93 rfl ?_)
 refine we rfl ?_
 refine vc_cond rfl (fun hc19 => ?_) (fun hc19 => ?_)
 ·
  change (!validB last0 rows) = true at hc19
  rw [hval] at hc19
  cases hc19
 refine vc_skip (n_then (vs (wr ?_)))
 refine wN rfl rfl rfl (v93 rfl ?_)
 refine w_callI (env' := _) rfl rfl rfl (by kernel_rfl) rfl (by repeat' first | exact mapL_nil | exact IsL.lend ‹_› | exact IsL.lend0 ‹_› | refine mapL_cons ?_ ?_ | refine mapL_app ?_ ?_ | refine lend_agg ?_ | refine lend_cloG ?_ | exact lend0_ptr rfl rfl (by first | (simp [AV.isVal, *]; done) | (simp [isVal_int, isVal_bool, isVal_str, isVal_nils, *]; done)) | exact lend_ptr rfl rfl (by first | (simp [AV.isVal, *]; done) | (simp [isVal_int, isVal_bool, isVal_str, isVal_nils, *]; done)) | rfl) (h12) rfl (v93 rfl ?_)
 iterate 5 refine wN rfl rfl rfl (v93 rfl ?_)
 refine we rfl (vs (vs (wr ?_)))
 iterate 3 refine wN rfl rfl rfl (v93 rfl ?_)
 refine w_split 28 rfl (fun hg28 => ?_) (fun hg28 => ?_)
 ·
  cases hg28
 refine v93 rfl ?_
 refine wN (wanted_t 28 (by kernel_rfl) rfl) rfl rfl (v93 rfl ?_)
 first | refine wN (wanted_t 28 (by kernel_rfl) rfl) rfl rfl (v93 rfl ?_) | refine x_len (wanted_t 28 (by kernel_rfl) rfl) rfl ‹_› Tryz.underlying35 rfl (v93 rfl ?_)
 refine wN (wanted_t 28 (by kernel_rfl) rfl) rfl rfl (v93 rfl ?_)
 first | refine wN (wanted_t 28 (by kernel_rfl) rfl) rfl rfl (v93 rfl ?_) | refine x_len (wanted_t 28 (by kernel_rfl) rfl) rfl ‹_› Tryz.underlying35 rfl (v93 rfl ?_)
 refine wN (wanted_t 28 (by kernel_rfl) rfl) rfl rfl (v93 rfl ?_)
 iterate 2 refine wN rfl rfl rfl (v93 rfl ?_)
 refine w_split 35 rfl (fun hg35 => ?_) (fun hg35 => ?_)
 ·
  rw [lrows_plist] at hg35
  rw [badW, hg35] at hbad
  cases hbad
 refine v93 rfl ?_
 refine wN (wanted_t 35 (by kernel_rfl) rfl) rfl rfl (v93 rfl ?_)
 refine wN (v := .ptr 0 0 0) (wanted_t 35 (by kernel_rfl) rfl) rfl rfl (v93 rfl ?_)
 iterate 2 refine wN (wanted_t 35 (by kernel_rfl) rfl) rfl rfl (v93 rfl ?_)
 iterate 2 refine wN rfl rfl rfl (v93 rfl ?_)
 refine w_split 41 rfl (fun hg41 => ?_) (fun hg41 => ?_)
 ·
  rw [badW, hg41] at hbad
  simp at hbad
 refine v93 rfl ?_
 iterate 2 refine wN (wanted_t 41 (by kernel_rfl) rfl) rfl rfl (v93 rfl ?_)
 iterate 2 refine wN rfl rfl rfl (v93 rfl ?_)
 refine w_split 45 rfl (fun hg45 => ?_) (fun hg45 => ?_)
 ·
  rw [badW, hg45] at hbad
  simp at hbad
 refine v93 rfl ?_
 iterate 2 refine wN (wanted_t 45 (by kernel_rfl) rfl) rfl rfl (v93 rfl ?_)
 refine w_callI (env' := _) (wanted_t 45 (by kernel_rfl) rfl) rfl rfl (by kernel_rfl) rfl (by repeat' first | exact mapL_nil | exact IsL.lend ‹_› | exact IsL.lend0 ‹_› | refine mapL_cons ?_ ?_ | refine mapL_app ?_ ?_ | refine lend_agg ?_ | refine lend_cloG ?_ | exact lend0_ptr rfl rfl (by first | (simp [AV.isVal, *]; done) | (simp [isVal_int, isVal_bool, isVal_str, isVal_nils, *]; done)) | exact lend_ptr rfl rfl (by first | (simp [AV.isVal, *]; done) | (simp [isVal_int, isVal_bool, isVal_str, isVal_nils, *]; done)) | rfl) (t13 G st 68 [.iptr true [.int .i64 last]] (badN last) hS (by omega) rfl (by kernel_rfl) (fun r hr => by obtain ⟨k, rfl⟩ := hps r hr; exact ⟨.int .i64 k, rfl, rfl, t14 G k last true⟩)) rfl (v93 rfl ?_)
 refine wN rfl rfl rfl (v93 rfl ?_)
 refine we rfl ?_
 refine vc_cond rfl (fun hc49 => ?_) (fun hc49 => ?_)
 ·
  rw [badW] at hbad
  rw [lrows_plist] at hg35
  simp only [Bool.or_eq_false_iff] at hbad
  rw [hbad.2] at hc49
  cases hc49
 refine vc_skip (n_then (vs (wr ?_)))
 refine wN (v := .agg [_, _]) rfl rfl rfl (v93 rfl ?_)
 refine w_callS rfl rfl rfl (by kernel_rfl) rfl (t15 G _ last0 tg rows hne (by omega) hPI) ?_
 rintro _ H6 ⟨L, locs, rfl, hI, hLl, hlocs, hpre⟩
 refine v93 rfl ?_
 refine w_opH (v := .ptr H6.length 0 0) (env' := _) (H2 := H6 ++ [VO.arr 42 2 [[.int .i64 0, .nils]]]) rfl (g_alloc z42 rfl rfl) rfl (rfl) (fun _ h => h) (v93 rfl ?_)
 refine w_op0N (H2 := H6 ++ [VO.arr 42 2 [[.int .i64 last0, .row false L 0 rows.length]]]) rfl (g_store get_last rfl rfl sz42 ⟨rfl, by simp, by decide⟩) (set_last) (fun _ h => h) ?_
 refine we rfl (vs (vs (wr ?_)))
 have hW0 : WInv [VO.arr 42 2 [[.int .i64 last0, .list tg rows]], VO.arr 3 1 [[.int .i64 last]], VO.arr 42 2 [[.int .i64 0, .nils]]] (H6 ++ [VO.arr 42 2 [[.int .i64 last0, .row false L 0 rows.length]]]) H6.length L locs last0 rows.length (shOf rows) := by
  have h6L := hI.row
  obtain ⟨r6, e6, _, _⟩ := h6L
  have hl6 := (List.getElem?_eq_some_iff.1 e6).1
  refine ⟨hI.app, get_last, fun k o hk => get_app (hpre k o hk), by simp [shOf], by omega, hLl, hlocs, by omega, fun l hl e => ?_⟩
  subst e
  obtain ⟨j, hj⟩ := List.mem_iff_getElem?.1 hl
  have hjs : j < (shOf rows).length := by have := (List.getElem?_eq_some_iff.1 hj).1; have := hI.len; omega
  have := (List.getElem?_eq_some_iff.1 (hI.byt j _ _ hj (List.getElem?_eq_getElem hjs))).1
  omega
 generalize H6 ++ [VO.arr 42 2 [[.int .i64 last0, .row false L 0 rows.length]]] = H7 at hW0 ⊢
 refine wN rfl rfl rfl (v93 rfl ?_)
 first | refine wN rfl rfl rfl (v93 rfl ?_) | refine x_len rfl rfl ‹_› Tryz.underlying52 rfl (v93 rfl ?_)
 refine wN rfl rfl rfl (v93 rfl ?_)
 refine we rfl (vc_block ?_)
 refine vc_loopX (α := { x : Nat × Hp // WInv [VO.arr 42 2 [[.int .i64 last0, .list tg rows]], VO.arr 3 1 [[.int .i64 last]], VO.arr 42 2 [[.int .i64 0, .nils]]] x.2 H6.length L locs last0 rows.length (((lrows l).take x.1).foldl layP (shOf rows)) ∧ ShOk (((lrows l).take x.1).foldl layP (shOf rows)) }) (fun x => (rnone 14 ++ ([some .undef] ++ (rnone 40 ++ ([some (.int .i64 (x.1.1 : Nat))] ++ (rundef 17 ++ (rnone 20))))))) (fun x => x.1.2) (fun x => (lrows l).length - x.1.1) ⟨(0, H7), hW0, hSh⟩ (by repeat' first | exact trivial | refine ⟨.inr rfl, ?_⟩ | refine ⟨.inl rfl, ?_⟩ | fail) rfl ?_
 rintro ⟨⟨i, Hx⟩, hW, hShx⟩ Y0 hY0
 refine vc_norm (env' := (_::_::_::_::_::_::_::_::_::_::_::_::_::_::_::_::_::_::_::_::_::_::_::_::_::_::_::_::_::_::_::_::_::_::_::_::_::_::_::_::_::_::_::_::_::_::_::_::_::_::_::_::_::_::_::(.int .i64 (i : Int))::_::_::_::_::_::_::_::_::_::_::_::_::_::_::_::_::_::_::_::_::_::_::_::_::_::_::_::_::_::_::_::_::_::_::_::_::_::[])) (H' := Hx) rfl rfl ?_
 replace hW : WInv [VO.arr 42 2 [[.int .i64 last0, .list tg rows]], VO.arr 3 1 [[.int .i64 last]], VO.arr 42 2 [[.int .i64 0, .nils]]] Hx H6.length L locs last0 rows.length (((lrows l).take i).foldl layP (shOf rows)) := hW
 replace hShx : ShOk (((lrows l).take i).foldl layP (shOf rows)) := hShx
 refine vs (wr ?_)
 refine wN rfl rfl rfl (v93 rfl ?_)
 refine we rfl (vs ?_)
 refine vc_cond rfl (fun hc56 => ?_) (fun hc56 => ?_)
 ·
  have hlt : i < (lrows l).length := by simpa using hc56
  have hri : (lrows l)[i]? = some (lrows l)[i] := List.getElem?_eq_getElem hlt
  have hki := hok _ (List.getElem_mem hlt)
  obtain ⟨pg, a, b, hx, hLb, hb1, hb2⟩ := hpl _ (List.getElem_mem hlt)
  rw [hx] at hri hki
  have hkb := okP_bounds hki
  obtain ⟨lp, s, prow, hlp, hsp, hpr, hprp, hby⟩ := hW.at (i := pg.toNat) (by omega)
  have h128 := (hShx s (List.mem_of_getElem? hsp)).1
  refine vc_skip (n_then (vs (vc_block (vs (wr ?_)))))
  first | refine wN (v := .iptr _ [_, _, _]) rfl rfl rfl (v93 rfl ?_) | (refine x_index rfl rfl ‹_› rfl el52 (by omega) ‹_› rfl (fun bo => ?_); refine v93 rfl ?_)
  refine wN (v := .agg [_, _, _]) rfl rfl rfl (v93 rfl ?_)
  refine w_opH (v := .ptr Hx.length 0 0) (env' := _) (H2 := Hx ++ [VO.arr 108 3 [[.int .i64 0, .int .i64 0, .nils]]]) rfl (g_alloc z108 rfl rfl) rfl (rfl) (fun _ h => h) (v93 rfl ?_)
  refine w_op0N (H2 := (Hx ++ [VO.arr 108 3 [[.int .i64 pg, .int .i64 a, b]]])) rfl (g_store get_last rfl rfl sz108 ⟨rfl, by simp, by decide⟩) (set_last) (fun _ h => h) ?_
  refine we rfl (w_regionD (by kernel_rfl) ?_)
  have hW9 : WInv [VO.arr 42 2 [[.int .i64 last0, .list tg rows]], VO.arr 3 1 [[.int .i64 last]], VO.arr 42 2 [[.int .i64 0, .nils]]] (Hx ++ [VO.arr 108 3 [[.int .i64 pg, .int .i64 a, b]]]) H6.length L locs last0 rows.length _ := hW.app
  refine dN (v := .ptr H6.length 0 1) rfl rfl rfl (d93 rfl ?_)
  refine dN (v := .row false L 0 rows.length) rfl (g_load hW9.o rfl rfl) rfl (d93 rfl ?_)
  refine dN (v := .ptr Hx.length 0 0) rfl rfl rfl (d93 rfl ?_)
  refine dN (v := .int .i64 pg) rfl (g_load (rows := [[.int .i64 pg, .int .i64 a, b]]) get_last rfl rfl) rfl (d93 rfl ?_)
  refine dN (v := .ptr L pg.toNat 0) rfl (g_index0 el40 (get_app hpr) (by omega) (by omega)) rfl (d93 rfl ?_)
  refine dN rfl rfl rfl (d93 rfl ?_)
  refine dN (v := .row false lp 0 s.1.length) rfl (g_load (get_app hpr) hprp rfl) rfl (d93 rfl ?_)
  refine dN (v := .ptr Hx.length 0 1) rfl rfl rfl (d93 rfl ?_)
  refine dN (v := .int .i64 a) rfl (g_load (rows := [[.int .i64 pg, .int .i64 a, b]]) get_last rfl rfl) rfl (d93 rfl ?_)
  refine dN (v := .row false lp a.toNat (s.1.length - a.toNat)) rfl (g_slice0 Tryz.underlying68 sz5 (get_app hby) (by omega) (by omega)) rfl (d93 rfl ?_)
  refine dN (v := .ptr Hx.length 0 2) rfl rfl rfl (d93 rfl ?_)
  refine dN (v := b) rfl (g_load (rows := [[.int .i64 pg, .int .i64 a, b]]) get_last rfl rfl) rfl (d93 rfl ?_)
  refine d_opH (v := .int .i64 ((lrows b).length : Nat)) (env' := _) (H2 := (Hx ++ [VO.arr 108 3 [[.int .i64 pg, .int .i64 a, b]]]).set lp (VO.arr 5 1 (lay s.1 a.toNat (lrows b)))) rfl (g_copyL (b := false) (x := b) (rows' := lrows b) (i := a.toNat) (m := s.1.length - a.toNat) el68 (get_app hby) hLb.src (bytes_len hb2) (by decide) hLb.notStr (by omega) (by omega)) (.inl rfl) rfl (rfl) (fun _ h => h) (d93 rfl ?_)
  refine d_endB rfl (n_then (wr ?_))
  iterate 2 refine wN rfl rfl rfl (v93 rfl ?_)
  refine we rfl ?_
  refine hY0 ⟨(i + 1, _), by rw [foldl_take hri]; exact WInv.layStep hW9 hShx hki hlp hsp, by rw [foldl_take hri]; exact hShx.lay hki (piece_val ⟨pg, a, b, rfl, hLb, hb1, hb2⟩)⟩ (by simp only; omega) _ _ ?_ rfl
  repeat' first | exact trivial | refine ⟨.inr rfl, ?_⟩ | refine ⟨.inl rfl, ?_⟩ | refine ⟨.inl ?_, ?_⟩ | fail
  all_goals first | exact (int_succ (by omega)).symm
 have hge : ¬ i < (lrows l).length := by simpa using hc56
 rw [foldl_all (by omega)] at hW hShx
 refine vc_exit (x_then (x_then (x_same (n_then (vs (vs (wr ?_)))))))
 refine wN rfl rfl rfl (v93 rfl ?_)
 first | refine wN rfl rfl rfl (v93 rfl ?_) | refine x_len rfl rfl ‹_› Tryz.underlying35 rfl (v93 rfl ?_)
 refine wN rfl rfl rfl (v93 rfl ?_)
 refine we rfl (vc_block ?_)
 clear hY0 Y0
 refine vc_loopX (α := { x : Nat × Hp // WInv [VO.arr 42 2 [[.int .i64 last0, .list tg rows]], VO.arr 3 1 [[.int .i64 last]], VO.arr 42 2 [[.int .i64 0, .nils]]] x.2 H6.length L locs last0 rows.length (((pgs.zip (lrows st)).take x.1).foldl stampP ((lrows l).foldl layP (shOf rows))) }) (fun x => (rnone 15 ++ ([some .undef, some .undef] ++ (rnone 58 ++ ([some (.int .i64 (x.1.1 : Nat))] ++ (rundef 14 ++ ([none, none, none]))))))) (fun x => x.1.2) (fun x => pgs.length - x.1.1) ⟨(0, Hx), hW⟩ (by repeat' first | exact trivial | refine ⟨.inr rfl, ?_⟩ | refine ⟨.inl rfl, ?_⟩ | fail) rfl ?_
 rintro ⟨⟨i, Hx⟩, hW⟩ Y1 hY1
 refine vc_norm (env' := (_::_::_::_::_::_::_::_::_::_::_::_::_::_::_::_::_::_::_::_::_::_::_::_::_::_::_::_::_::_::_::_::_::_::_::_::_::_::_::_::_::_::_::_::_::_::_::_::_::_::_::_::_::_::_::_::_::_::_::_::_::_::_::_::_::_::_::_::_::_::_::_::_::_::_::(.int .i64 (i : Int))::_::_::_::_::_::_::_::_::_::_::_::_::_::_::_::_::_::[])) (H' := Hx) rfl rfl ?_
 replace hW : WInv [VO.arr 42 2 [[.int .i64 last0, .list tg rows]], VO.arr 3 1 [[.int .i64 last]], VO.arr 42 2 [[.int .i64 0, .nils]]] Hx H6.length L locs last0 rows.length (((pgs.zip (lrows st)).take i).foldl stampP ((lrows l).foldl layP (shOf rows))) := hW
 refine vs (wr ?_)
 refine wN rfl rfl rfl (v93 rfl ?_)
 refine we rfl (vs ?_)
 refine vc_cond rfl (fun hc76 => ?_) (fun hc76 => ?_)
 ·
  have hlt : i < pgs.length := by simpa [lrows_plist] using hc76
  have hri0 : pgs[i]? = some pgs[i] := List.getElem?_eq_getElem hlt
  obtain ⟨r, hr, hrx⟩ := hpg _ (List.getElem_mem hlt)
  have hkb := okP_in (hok r hr)
  generalize pPg r = pg at hrx hkb
  rw [hrx] at hri0
  have hri : (lrows (plist pgs))[i]? = some [.int .i64 pg] := by rw [lrows_plist]; exact hri0
  have hlt2 : i < (lrows st).length := by omega
  have hsi : (lrows st)[i]? = some (lrows st)[i] := List.getElem?_eq_getElem hlt2
  obtain ⟨k, hkx⟩ := hps _ (List.getElem_mem hlt2)
  rw [hkx] at hsi
  have hzi : (pgs.zip (lrows st))[i]? = some ([.int .i64 pg], [.int .i64 k]) := by rw [List.getElem?_zip_eq_some]; exact ⟨hri0, hsi⟩
  obtain ⟨lp, s, prow, hlp, hsp, hpr, hprp, hby⟩ := hW.at (i := pg.toNat) (by omega)
  refine vc_skip (n_then (vs (vc_block (vs (wr ?_)))))
  refine wN rfl rfl rfl (v93 rfl ?_)
  first | refine wN (v := .iptr _ [_]) rfl rfl rfl (v93 rfl ?_) | (refine x_index rfl rfl ‹_› rfl el35 (by omega) ‹_› rfl (fun bo => ?_); refine v93 rfl ?_)
  iterate 3 refine wN rfl rfl rfl (v93 rfl ?_)
  refine we rfl (w_regionD (by kernel_rfl) ?_)
  refine dN (v := .ptr H6.length 0 1) rfl rfl rfl (d93 rfl ?_)
  refine dN (v := .row false L 0 rows.length) rfl (g_load hW.o rfl rfl) rfl (d93 rfl ?_)
  iterate 3 refine dN rfl rfl rfl (d93 rfl ?_)
  first | refine dN (v := .iptr _ [_]) rfl rfl rfl (d93 rfl ?_) | (refine y_index rfl rfl ‹_› rfl el35 (by omega) ‹_› rfl (fun bo => ?_); refine d93 rfl ?_)
  refine dN rfl rfl rfl (d93 rfl ?_)
  refine dN (v := .ptr L pg.toNat 0) rfl (g_index0 el40 hpr (by omega) (by omega)) rfl (d93 rfl ?_)
  refine dN rfl rfl rfl (d93 rfl ?_)
  refine d_op0 (H2 := Hx.set L (VO.arr 95 2 (prow.set pg.toNat [.row false lp 0 s.1.length, .int .i64 k]))) rfl (g_store hpr hprp rfl sz3 ⟨rfl, by simp, by decide⟩) (.inl rfl) (rfl) (fun _ h => h) ?_
  refine d_endB rfl (n_then (wr ?_))
  iterate 2 refine wN rfl rfl rfl (v93 rfl ?_)
  refine we rfl ?_
  refine hY1 ⟨(i + 1, _), by rw [foldl_take hzi]; exact hW.stampStep hpr hlp hsp⟩ (by simp only; omega) _ _ ?_ rfl
  repeat' first | exact trivial | refine ⟨.inr rfl, ?_⟩ | refine ⟨.inl rfl, ?_⟩ | refine ⟨.inl ?_, ?_⟩ | fail
  all_goals first | exact (int_succ (by omega)).symm
 have hge : ¬ i < pgs.length := by simpa [lrows_plist] using hc76
 rw [foldl_all (by simp; omega)] at hW
 refine vc_exit (x_then (x_then (x_same (n_then (vs (wr ?_))))))
 refine wN (v := .int .i64 last) rfl (g_load (hW.low 1 _ rfl) rfl rfl) rfl (v93 rfl ?_)
 refine wN (v := .ptr H6.length 0 0) rfl rfl rfl (v93 rfl ?_)
 refine w_op0N (H2 := Hx.set H6.length (VO.arr 42 2 [[.int .i64 last, .row false L 0 rows.length]])) rfl (g_store hW.o rfl rfl sz3 ⟨rfl, by simp, by decide⟩) (rfl) (fun _ h => h) ?_
 refine we rfl (vs (wr ?_))
 refine wN (v := .agg [.int .i64 last, .row false L 0 rows.length]) rfl (g_load (get_self hW.o) rfl rfl) rfl (v93 rfl ?_)
 refine w_op0N (H2 := _) rfl (g_store (get_set (hW.low 2 _ rfl) (by have := hW.lq; simp at this; omega)) rfl rfl sz42 ⟨rfl, by simp, by decide⟩) (rfl) (fun _ h => h) ?_
 refine wN rfl rfl rfl (v93 rfl ?_)
 refine we rfl (vc_ret ?_)
 refine r_fn (vres_cell_tmp rfl rfl (g_vload (get_self (get_set (hW.low 2 _ rfl) (by have := hW.lq; simp at this; omega))) rfl rfl) rfl) ?_
 have hq2 : 2 ≠ L := by have := hW.lL; simp at this; omega
 have hl2 : 2 ∉ locs := fun h => by have := hW.ll 2 h; simp at this
 exact ret_img ((hW.img.other hW.qL (fun h => hW.ql _ h rfl)).other hq2 hl2) hW.n (ShOk.stampAll _ _ hShx)
end Lay
end Go.Vi
namespace Go.Vi
open Go Go.Vi Go.Proofs
attribute [local irreducible] vops vopsD vc
namespace Lay
structure BImg (H : Hp) (L : Nat) (locs : List Nat) (sh : List (List (List AV) × Int)) : Prop where
 len : locs.length = sh.length
 pg : ∀ rows : List (List AV), H[L]? = some (.arr 95 2 rows) → rows.length = sh.length
 row : ∃ rows : List (List AV), H[L]? = some (.arr 95 2 rows) ∧ rows.length = sh.length ∧ ∀ (i l : Nat) (s : List (List AV) × Int), locs[i]? = some l → sh[i]? = some s → rows[i]? = some [.row true l 0 s.1.length, .int .i64 s.2]
 byt : ∀ (i l : Nat) (s : List (List AV) × Int), locs[i]? = some l → sh[i]? = some s → H[l]? = some (.arr 5 1 s.1)
 nd : locs.Nodup
 ne : ∀ l ∈ locs, l ≠ L
theorem BImg.app {H : Hp} {L : Nat} {locs : List Nat} {sh : List Sheet} {g : Hp} (h : BImg H L locs sh) : BImg (H ++ g) L locs sh := by
 obtain ⟨rows, h1, h2, h3⟩ := h.row
 exact ⟨h.len, fun r hr => by rw [get_app h1] at hr; cases hr; exact h2, ⟨rows, get_app h1, h2, h3⟩, fun i l s hl hs => get_app (h.byt i l s hl hs), h.nd, h.ne⟩
theorem BImg.other {H : Hp} {L k : Nat} {locs : List Nat} {sh : List Sheet} {o : VO} (h : BImg H L locs sh) (h1 : k ≠ L) (h2 : k ∉ locs) : BImg (H.set k o) L locs sh := by
 obtain ⟨rows, e1, e2, e3⟩ := h.row
 have g1 : (H.set k o)[L]? = some (.arr 95 2 rows) := get_set e1 h1
 exact ⟨h.len, fun r hr => by rw [g1] at hr; cases hr; exact e2, ⟨rows, g1, e2, e3⟩, fun i l s hl hs => get_set (h.byt i l s hl hs) (fun e => h2 (by rw [e]; exact List.mem_of_getElem? hl)), h.nd, h.ne⟩
theorem BImg.byte {H : Hp} {L i l : Nat} {locs : List Nat} {sh : List Sheet} {s : Sheet} {b : List (List AV)} (h : BImg H L locs sh) (hl : locs[i]? = some l) (hs : sh[i]? = some s) (hb : b.length = s.1.length) : BImg (H.set l (.arr 5 1 b)) L locs (sh.set i (b, s.2)) := by
 obtain ⟨rows, e1, e2, e3⟩ := h.row
 have hlL := h.ne l (List.mem_of_getElem? hl)
 have g1 : (H.set l (.arr 5 1 b))[L]? = some (.arr 95 2 rows) := get_set e1 hlL
 have hi := (List.getElem?_eq_some_iff.1 hs).1
 have at' : ∀ (j : Nat) (s' : Sheet), (sh.set i (b, s.2))[j]? = some s' → (j = i ∧ s' = (b, s.2)) ∨ (j ≠ i ∧ sh[j]? = some s') := fun j s' hj => by
  by_cases hji : j = i
  · subst hji
    rw [List.getElem?_set_self hi] at hj
    cases hj; exact .inl ⟨rfl, rfl⟩
  rw [List.getElem?_set_ne (Ne.symm hji)] at hj
  exact .inr ⟨hji, hj⟩
 refine ⟨by simp [h.len], fun r hr => by rw [g1] at hr; cases hr; simp [e2], ⟨rows, g1, by simp [e2], fun j l' s' hl' hs' => ?_⟩, fun j l' s' hl' hs' => ?_, h.nd, h.ne⟩
 · rcases at' j s' hs' with ⟨rfl, rfl⟩ | ⟨hne, hs'⟩
   · rw [e3 j l' s hl' hs]
     simp [hb]
   exact e3 j l' s' hl' hs'
 rcases at' j s' hs' with ⟨rfl, rfl⟩ | ⟨hne, hs'⟩
 · rw [hl] at hl'; cases hl'
   exact get_self (h.byt j l s hl hs)
 refine get_set (h.byt j l' s' hl' hs') fun e => hne ?_
 subst e
 obtain ⟨a1, a2⟩ := List.getElem?_eq_some_iff.1 hl
 obtain ⟨b1, b2⟩ := List.getElem?_eq_some_iff.1 hl'
 exact (List.getElem_inj h.nd).1 (b2.trans a2.symm)
theorem BImg.stamp {H : Hp} {L i l : Nat} {locs : List Nat} {sh : List Sheet} {s : Sheet} {k : Int} {rows : List (List AV)} (h : BImg H L locs sh) (hr : H[L]? = some (.arr 95 2 rows)) (hl : locs[i]? = some l) (hs : sh[i]? = some s) : BImg (H.set L (.arr 95 2 (rows.set i [.row true l 0 s.1.length, .int .i64 k]))) L locs (sh.set i (s.1, k)) := by
 obtain ⟨rows', e1, e2, e3⟩ := h.row
 rw [hr] at e1
 cases e1
 have hi := (List.getElem?_eq_some_iff.1 hs).1
 have g1 := get_self (o' := VO.arr 95 2 (rows.set i [.row true l 0 s.1.length, .int .i64 k])) hr
 have at' : ∀ (j : Nat) (s' : Sheet), (sh.set i (s.1, k))[j]? = some s' → (j = i ∧ s' = (s.1, k)) ∨ (j ≠ i ∧ sh[j]? = some s') := fun j s' hj => by
  by_cases hji : j = i
  · subst hji
    rw [List.getElem?_set_self hi] at hj
    cases hj; exact .inl ⟨rfl, rfl⟩
  rw [List.getElem?_set_ne (Ne.symm hji)] at hj
  exact .inr ⟨hji, hj⟩
 refine ⟨by simp [h.len], fun r hr' => by rw [g1] at hr'; cases hr'; simp [e2], ⟨_, g1, by simp [e2], fun j l' s' hl' hs' => ?_⟩, fun j l' s' hl' hs' => ?_, h.nd, h.ne⟩
 · rcases at' j s' hs' with ⟨rfl, rfl⟩ | ⟨hne, hs'⟩
   · rw [hl] at hl'; cases hl'
     rw [List.getElem?_set_self (by omega)]
   rw [List.getElem?_set_ne (Ne.symm hne)]
   exact e3 j l' s' hl' hs'
 have hlL : L ≠ l' := fun e => h.ne l' (List.mem_of_getElem? hl') e.symm
 rcases at' j s' hs' with ⟨rfl, rfl⟩ | ⟨hne, hs'⟩
 · exact get_set (h.byt j l' s hl' hs) hlL
 exact get_set (h.byt j l' s' hl' hs') hlL
theorem BImg.ret {H : Hp} {L n : Nat} {locs : List Nat} {sh : List Sheet} (h : BImg H L locs sh) (hn : sh.length = n) (hv : ShOk sh) : ret0 H (.row false L 0 n) = some (.list .loose (shRows sh)) := by
 obtain ⟨rows, e1, e2, e3⟩ := h.row
 refine retD_row e1 (by omega) (mapL_get2 (by simp [shRows, e2]) fun i r y hr hy => ?_)
 have hi : i < sh.length := by have := (List.getElem?_eq_some_iff.1 hr).1; omega
 have hi' : i < locs.length := by have := h.len; omega
 have hl : locs[i]? = some locs[i] := List.getElem?_eq_getElem hi'
 have hs : sh[i]? = some sh[i] := List.getElem?_eq_getElem hi
 have hrow := e3 i _ _ hl hs
 rw [hr] at hrow
 cases hrow
 have hy' : y = [.list .loose (sh[i]).1, .int .i64 (sh[i]).2] := by
  simp only [shRows] at hy
  rw [List.getElem?_map, hs] at hy
  cases hy; rfl
 subst hy'
 have hval := bytes_val (hv _ (List.mem_of_getElem? hs)).2
 refine mapL_cons (retD_row (h.byt i _ _ hl hs) rfl (mapL_id fun r hr => mapL_id fun x hx => retD_val (List.all_eq_true.1 (List.all_eq_true.1 hval r hr) x hx))) rfl
def bkRows (locs : List Nat) : List (List AV) := locs.map fun l => [.row true l 0 128, .int .i64 0]
def zeroSh : List Sheet := List.replicate 120 (z128, 0)
structure BkI (H : Hp) (i : Nat) (Hx : Hp) (L : Nat) (locs : List Nat) : Prop where
 len : locs.length = i
 le : i ≤ 120
 r : Hx[H.length]? = some (.arr 42 2 [[.int .i64 0, .nils]])
 o : Hx[H.length + 1]? = some (.arr 42 2 [[.int .i64 0, pval L (bkRows locs)]])
 pgs : (bkRows locs = [] ∧ Hx.length + 2 ≤ L) ∨ (bkRows locs ≠ [] ∧ Hx[L]? = some (.arr 95 2 (bkRows locs)))
 byt : ∀ l ∈ locs, Hx[l]? = some (.arr 5 1 z128)
 nd : locs.Nodup
 gt : ∀ l ∈ locs, H.length + 1 < l ∧ l < Hx.length ∧ l ≠ L
 gL : H.length + 1 < L
 pre : ∀ (l : Nat) (o : VO), H[l]? = some o → Hx[l]? = some o
theorem BkI.next {H Hx : Hp} {i L : Nat} {locs : List Nat} (h : BkI H i Hx L locs) (hi : i < 120) : BkI H (i + 1) ((((Hx ++ [VO.arr 5 1 z128]) ++ [VO.arr 95 2 [[AV.row true Hx.length 0 128, AV.int .i64 0]]]).set L .dead ++ [VO.arr 95 2 (bkRows locs ++ [[AV.row true Hx.length 0 128, AV.int .i64 0]])]).set (H.length + 1) (VO.arr 42 2 [[.int .i64 0, .row false (Hx.length + 2) 0 ((bkRows locs).length + 1)]])) (Hx.length + 2) (locs ++ [Hx.length]) := by
 have ho := (List.getElem?_eq_some_iff.1 h.o).1
 have hgL := h.gL
 have hrw : bkRows (locs ++ [Hx.length]) = bkRows locs ++ [[.row true Hx.length 0 128, .int .i64 0]] := by simp [bkRows]
 have old : ∀ (l : Nat) (o : VO), Hx[l]? = some o → l ≠ H.length + 1 → l ≠ L → ((((Hx ++ [VO.arr 5 1 z128]) ++ [VO.arr 95 2 [[AV.row true Hx.length 0 128, AV.int .i64 0]]]).set L .dead ++ [VO.arr 95 2 (bkRows locs ++ [[AV.row true Hx.length 0 128, AV.int .i64 0]])]).set (H.length + 1) (VO.arr 42 2 [[.int .i64 0, .row false (Hx.length + 2) 0 ((bkRows locs).length + 1)]]))[l]? = some o := fun l o hl h1 h2 =>
  get_set (get_app (get_set (get_app (get_app hl)) (by omega))) (by omega)
 have hlen : ((((Hx ++ [VO.arr 5 1 z128]) ++ [VO.arr 95 2 [[AV.row true Hx.length 0 128, AV.int .i64 0]]]).set L .dead ++ [VO.arr 95 2 (bkRows locs ++ [[AV.row true Hx.length 0 128, AV.int .i64 0]])]).set (H.length + 1) (VO.arr 42 2 [[.int .i64 0, .row false (Hx.length + 2) 0 ((bkRows locs).length + 1)]])).length = Hx.length + 3 := by simp
 have hne : L ≠ Hx.length := by
  rcases h.pgs with ⟨_, h2⟩ | ⟨_, h2⟩
  · omega
  have := (List.getElem?_eq_some_iff.1 h2).1; omega
 refine ⟨by simp [h.len], by omega, old _ _ h.r (by omega) (by omega), ?_, .inr ⟨by rw [hrw]; simp, ?_⟩, ?_, ?_, ?_, by omega, fun l o hl => ?_⟩
 · rw [hrw]
   have e : pval (Hx.length + 2) (bkRows locs ++ [[.row true Hx.length 0 128, .int .i64 0]]) = .row false (Hx.length + 2) 0 ((bkRows locs).length + 1) := by simp [pval]
   rw [e]
   exact get_self (get_app (get_set (get_app (get_app h.o)) (by omega)))
 · rw [hrw]
   refine get_set ?_ (by omega)
   rw [List.getElem?_append_right (by simp)]
   simp
 · intro l hl
   rcases List.mem_append.1 hl with hl | hl
   · have := h.gt l hl
     exact old _ _ (h.byt l hl) (by omega) (by omega)
   simp at hl
   subst hl
   exact get_set (get_app (get_set (get_app get_last) hne)) (by omega)
 · rw [List.nodup_append]
   refine ⟨h.nd, by simp, fun a ha b hb e => ?_⟩
   simp at hb
   have := (h.gt a ha).2
   omega
 · intro l hl
   rw [hlen]
   rcases List.mem_append.1 hl with hl | hl
   · have := h.gt l hl; omega
   simp at hl; subst hl; omega
 have hl2 := (List.getElem?_eq_some_iff.1 hl).1
 exact old _ _ (h.pre l o hl) (by omega) (by omega)
theorem BkI.img {H Hx : Hp} {i L : Nat} {locs : List Nat} {o : VO} (h : BkI H i Hx L locs) (hi : ¬ i < 120) : BImg (Hx.set H.length o) L locs zeroSh := by
 have hle := h.le
 have hi2 : locs.length = 120 := by rw [h.len]; omega
 have hne : bkRows locs ≠ [] := fun e => by have := congrArg List.length e; simp [bkRows, hi2] at this
 have hL := (h.pgs.resolve_left fun c => hne c.1).2
 have hgL := h.gL
 have hset : ∀ l o', Hx[l]? = some o' → l ≠ H.length → (Hx.set H.length o)[l]? = some o' := fun l o' ho hn => get_set ho (by omega)
 have hLL := hset L _ hL (by omega)
 have hs : ∀ (j : Nat) (s : Sheet), zeroSh[j]? = some s → s = (z128, 0) := fun j s h => List.eq_of_mem_replicate (List.mem_of_getElem? h)
 have hz : zeroSh.length = 120 := List.length_replicate ..
 have hb : (bkRows locs).length = 120 := by simp [bkRows, hi2]
 refine ⟨by rw [hi2, hz], fun r hr => by rw [hLL] at hr; cases hr; rw [hb, hz], ⟨_, hLL, by rw [hb, hz], fun j l s hl hs2 => ?_⟩, fun j l s hl hs2 => ?_, h.nd, fun l hl => (h.gt l hl).2.2⟩
 · rw [hs j s hs2, bkRows, List.getElem?_map, hl]
   rfl
 rw [hs j s hs2]
 have hm := List.mem_of_getElem? hl
 exact hset l _ (h.byt l hm) (by have := (h.gt l hm).1; omega)
theorem z128_bs : Bs z128 := fun q hq => ⟨0, List.eq_of_mem_replicate hq⟩
theorem zeroSh_ok : ShOk zeroSh := fun s hs => by
 have := List.eq_of_mem_replicate hs
 subst this
 exact ⟨List.length_replicate .., z128_bs⟩
set_option maxHeartbeats 8000000 in
theorem bBlank (G : Glob) (H : Hp) : XS Tryz.prog G 59 [] H (fun r H' => ∃ L locs, r = .agg [.int .i64 0, .row false L 0 120] ∧ BImg H' L locs zeroSh ∧ H.length ≤ L ∧ (∀ l ∈ locs, H.length ≤ l) ∧ ∀ (l : Nat) (o : VO), H[l]? = some o → H'[l]? = some o) := by
 refine xs_body (fun o => match o.op with | .call ⟨.builtin .append, _, _⟩ => .shr | .buildSlice _ _ _ => .shr | _ => .iso) Tryz.func59 rfl ?_
 refine vc_norm (env' := [_, _, _, _, _, _, _, _, _, _, _, _, _]) (H' := _) rfl rfl ?_
 refine vs (wr ?_)
 refine w_opH (v := .ptr H.length 0 0) (env' := _) (H2 := (H ++ [VO.arr 42 2 [[.int .i64 0, .nils]]])) rfl (g_alloc z42 rfl rfl) rfl (rfl) (fun _ h => h) (v13 rfl ?_)
 refine we rfl (vs (wr ?_))
 refine w_opH (v := .ptr (H.length + 1) 0 0) (env' := _) (H2 := (H ++ [VO.arr 42 2 [[.int .i64 0, .nils]]] ++ [VO.arr 42 2 [[.int .i64 0, .nils]]])) rfl (g_alloc z42 rfl (by simp)) rfl (rfl) (fun _ h => h) (v13 rfl ?_)
 refine we rfl (vs (vs (wr ?_)))
 refine wN rfl rfl rfl (v13 rfl ?_)
 refine we rfl (vc_block ?_)
 refine vc_loopX (α := { a : Nat × Hp × Nat × List Nat // BkI H a.1 a.2.1 a.2.2.1 a.2.2.2 }) (fun a => ([none, none, some (.int .i64 (a.1.1 : Nat))] ++ (rundef 9 ++ ([none])))) (fun a => a.1.2.1) (fun a => 120 - a.1.1) ⟨(0, (H ++ [VO.arr 42 2 [[.int .i64 0, .nils]]] ++ [VO.arr 42 2 [[.int .i64 0, .nils]]]), H.length + 4, []), ⟨rfl, by omega, get_app get_last, by simp [pval, bkRows], .inl ⟨rfl, by simp⟩, fun l h => by simp at h, List.nodup_nil, fun l h => by simp at h, by show H.length + 1 < H.length + 4; omega, fun l o h => get_app (get_app h)⟩⟩ (by repeat' first | exact trivial | refine ⟨.inr rfl, ?_⟩ | refine ⟨.inl rfl, ?_⟩ | fail) rfl ?_
 rintro ⟨⟨i, Hx, L, locs⟩, hI⟩ Y0 hY0
 refine vc_norm (env' := [_, _, .int .i64 (i : Int), _, _, _, _, _, _, _, _, _, _]) (H' := Hx) rfl rfl ?_
 replace hI : BkI H i Hx L locs := hI
 refine vs (wr ?_)
 refine wN rfl rfl rfl (v13 rfl ?_)
 refine we rfl (vs ?_)
 refine vc_cond rfl (fun hc3 => ?_) (fun hc3 => ?_)
 ·
  have hlt : i < 120 := by have := of_decide_eq_true hc3; omega
  refine vc_skip (n_then (vs (vc_block ?_)))
  have hLne : L ≠ H.length + 1 := by have := hI.gL; omega
  have hsrc : srcRows ((Hx ++ [VO.arr 5 1 z128]) ++ [VO.arr 95 2 [[AV.row true Hx.length 0 128, AV.int .i64 0]]]) (.row true (Hx.length + 1) 0 1) = some [[AV.row true Hx.length 0 128, AV.int .i64 0]] := row_all (rows := [[AV.row true Hx.length 0 128, AV.int .i64 0]]) (get_lastn (by simp))
  have hacc : (bkRows locs = [] ∧ ((Hx ++ [VO.arr 5 1 z128]) ++ [VO.arr 95 2 [[AV.row true Hx.length 0 128, AV.int .i64 0]]]).length ≤ L) ∨ (bkRows locs ≠ [] ∧ ((Hx ++ [VO.arr 5 1 z128]) ++ [VO.arr 95 2 [[AV.row true Hx.length 0 128, AV.int .i64 0]]])[L]? = some (.arr 95 2 (bkRows locs))) := hI.pgs.imp (fun h => ⟨h.1, by simp; exact h.2⟩) (fun h => ⟨h.1, get_app (get_app h.2)⟩)
  refine w_regionW [(Hx ++ [VO.arr 5 1 z128]), ((Hx ++ [VO.arr 5 1 z128]) ++ [VO.arr 95 2 [[AV.row true Hx.length 0 128, AV.int .i64 0]]]), (((Hx ++ [VO.arr 5 1 z128]) ++ [VO.arr 95 2 [[AV.row true Hx.length 0 128, AV.int .i64 0]]]).set L .dead ++ [VO.arr 95 2 (bkRows locs ++ [[AV.row true Hx.length 0 128, AV.int .i64 0]])]), ((((Hx ++ [VO.arr 5 1 z128]) ++ [VO.arr 95 2 [[AV.row true Hx.length 0 128, AV.int .i64 0]]]).set L .dead ++ [VO.arr 95 2 (bkRows locs ++ [[AV.row true Hx.length 0 128, AV.int .i64 0]])]).set (H.length + 1) (VO.arr 42 2 [[.int .i64 0, .row false (Hx.length + 2) 0 ((bkRows locs).length + 1)]]))] (by kernel_rfl) ?_
  refine e_op (v := .ptr (H.length + 1) 0 1) (env' := _) rfl (by decide) (show _ = (0, 2) by kernel_rfl) (by decide) (fun _ _ h => h) (fun q h1 h2 => rfl) rfl (w13 rfl ?_)
  refine e_op (v := pval L (bkRows locs)) (env' := _) rfl (by decide) (show _ = (0, 2) by kernel_rfl) (by decide) (fun _ _ h => h) (fun q h1 h2 => (match q, h1, h2 with | 0, _, _ => g_load hI.o rfl rfl | 1, _, _ => g_load (get_app hI.o) rfl rfl | 2, _, _ => g_load (get_app (get_app hI.o)) rfl rfl | q + 3, _, h2 => absurd h2 (by omega))) rfl (w13 rfl ?_)
  refine e_eff (H0 := Hx) (H1 := (Hx ++ [VO.arr 5 1 z128])) (v := .row true Hx.length 0 128) (env' := _) rfl rfl (show _ = (0, 1) by kernel_rfl) rfl rfl (fun _ _ h => h) ((rfl : vmake Tryz.prog Hx 68 (.int .i64 128) (.int .i64 128) = some (.row true Hx.length 0 128, Hx ++ [VO.arr 5 1 z128]))) rfl (w13 rfl ?_)
  refine e_op (v := .agg [AV.row true Hx.length 0 128, AV.int .i64 0]) (env' := _) rfl (by decide) (show _ = (1, 1) by kernel_rfl) (by decide) (fun _ _ h => h) (fun q h1 h2 => rfl) rfl (w13 rfl ?_)
  refine e_eff (H0 := (Hx ++ [VO.arr 5 1 z128])) (H1 := ((Hx ++ [VO.arr 5 1 z128]) ++ [VO.arr 95 2 [[AV.row true Hx.length 0 128, AV.int .i64 0]]])) (v := .row true (Hx.length + 1) 0 1) (env' := _) rfl rfl (show _ = (1, 2) by kernel_rfl) rfl rfl (fun _ _ h => h) (g_build1 (H := (Hx ++ [VO.arr 5 1 z128])) (x := .agg [AV.row true Hx.length 0 128, AV.int .i64 0]) (cs := [AV.row true Hx.length 0 128, AV.int .i64 0]) el40 zc95 (by decide) rfl rfl (by simp)) rfl (w13 rfl ?_)
  refine e_eff (H0 := ((Hx ++ [VO.arr 5 1 z128]) ++ [VO.arr 95 2 [[AV.row true Hx.length 0 128, AV.int .i64 0]]])) (H1 := (((Hx ++ [VO.arr 5 1 z128]) ++ [VO.arr 95 2 [[AV.row true Hx.length 0 128, AV.int .i64 0]]]).set L .dead ++ [VO.arr 95 2 (bkRows locs ++ [[AV.row true Hx.length 0 128, AV.int .i64 0]])])) (v := .row false (Hx.length + 2) 0 ((bkRows locs).length + 1)) (env' := _) rfl rfl (show _ = (2, 3) by kernel_rfl) rfl rfl (fun _ _ h => h) (accR (n := Hx.length + 2) (H := ((Hx ++ [VO.arr 5 1 z128]) ++ [VO.arr 95 2 [[AV.row true Hx.length 0 128, AV.int .i64 0]]])) (L := L) (pgs := bkRows locs) (news := [[AV.row true Hx.length 0 128, AV.int .i64 0]]) (x := .row true (Hx.length + 1) 0 1) (e := 95) hacc (by simp) el40 Tryz.underlying40 rfl zc95 by95 hsrc rfl (by decide) (by decide) rfl rfl (by simp) (by simp [bkRows]; have := hI.len; omega)) rfl (w13 rfl ?_)
  refine e_op (v := .ptr (H.length + 1) 0 1) (env' := _) rfl (by decide) (show _ = (3, 3) by kernel_rfl) (by decide) (fun _ _ h => h) (fun q h1 h2 => rfl) rfl (w13 rfl ?_)
  refine e_eff0 (H0 := (((Hx ++ [VO.arr 5 1 z128]) ++ [VO.arr 95 2 [[AV.row true Hx.length 0 128, AV.int .i64 0]]]).set L .dead ++ [VO.arr 95 2 (bkRows locs ++ [[AV.row true Hx.length 0 128, AV.int .i64 0]])])) (H1 := ((((Hx ++ [VO.arr 5 1 z128]) ++ [VO.arr 95 2 [[AV.row true Hx.length 0 128, AV.int .i64 0]]]).set L .dead ++ [VO.arr 95 2 (bkRows locs ++ [[AV.row true Hx.length 0 128, AV.int .i64 0]])]).set (H.length + 1) (VO.arr 42 2 [[.int .i64 0, .row false (Hx.length + 2) 0 ((bkRows locs).length + 1)]]))) rfl rfl (show _ = (3, 4) by kernel_rfl) rfl rfl (fun _ _ h => h) (g_store (i := 0) (rows := [[.int .i64 0, pval L (bkRows locs)]]) (r := [.int .i64 0, pval L (bkRows locs)]) (k := 1) (x := .row false (Hx.length + 2) 0 ((bkRows locs).length + 1)) (cs := [.row false (Hx.length + 2) 0 ((bkRows locs).length + 1)]) (get_app (get_set (get_app (get_app hI.o)) hLne)) rfl rfl sz40 ⟨rfl, by simp, by decide⟩) ?_
  refine e_endB (H' := ((((Hx ++ [VO.arr 5 1 z128]) ++ [VO.arr 95 2 [[AV.row true Hx.length 0 128, AV.int .i64 0]]]).set L .dead ++ [VO.arr 95 2 (bkRows locs ++ [[AV.row true Hx.length 0 128, AV.int .i64 0]])]).set (H.length + 1) (VO.arr 42 2 [[.int .i64 0, .row false (Hx.length + 2) 0 ((bkRows locs).length + 1)]]))) rfl ?_
  refine n_then (wr ?_)
  refine wN (v := .int .i64 ((i : Int) + 1)) rfl (int_eq (i64_small (by omega) (by omega))) rfl (v13 rfl ?_)
  refine wN rfl rfl rfl (v13 rfl ?_)
  refine we rfl ?_
  refine hY0 ⟨(i + 1, _, _, _), hI.next hlt⟩ (by simp only; omega) _ _ ?_ rfl
  repeat' first | exact trivial | refine ⟨.inr rfl, ?_⟩ | refine ⟨.inl rfl, ?_⟩ | refine ⟨.inl ?_, ?_⟩ | fail
  all_goals first | exact congrArg (AV.int .i64) (by omega : ((i + 1 : Nat) : Int) = (i : Int) + 1)
 have hge : ¬ i < 120 := by have := of_decide_eq_false hc3; omega
 have hle := hI.le
 have hpv : pval L (bkRows locs) = .row false L 0 120 := by
  have hl : (bkRows locs).length = 120 := by simp [bkRows]; rw [hI.len]; omega
  have : bkRows locs ≠ [] := fun e => by rw [e] at hl; cases hl
  simp only [pval, if_neg this, hl]
 refine vc_exit (x_then (x_then (x_same (n_then (vs (wr ?_))))))
 refine wN (v := .agg [.int .i64 0, pval L (bkRows locs)]) rfl (g_load hI.o rfl rfl) rfl (v13 rfl ?_)
 refine w_op0N (H2 := _) rfl (g_store hI.r rfl rfl sz42 ⟨rfl, by simp, by decide⟩) (rfl) (fun _ h => h) ?_
 refine we rfl (vc_ret ?_)
 refine r_fn (vres_cell rfl rfl (g_vload (get_self hI.r) rfl rfl)) ?_
 refine ⟨L, locs, by rw [← hpv]; rfl, hI.img hge, by have := hI.gL; omega, fun l hl => by have := (hI.gt l hl).1; omega, fun l o h => ?_⟩
 exact get_set (hI.pre l o h) (by have := (List.getElem?_eq_some_iff.1 h).1; omega)
theorem bBlankF (G : Glob) : Vi.Fn Tryz.prog G 59 [] (.agg [.int .i64 0, .list .loose (shRows zeroSh)]) := by
 refine XS.mono (bBlank G []) ?_
 rintro r H1 ⟨L, locs, rfl, hI, _, _, _⟩
 show (mapL (ret0 H1) [.int .i64 0, .row false L 0 120]).map AV.agg = _
 simp only [mapL, hI.ret (n := 120) (List.length_replicate ..) zeroSh_ok]
 rfl
end Lay
end Go.Vi
namespace Go.Vi
open Go Go.Vi Go.Proofs
attribute [local irreducible] vops vopsD vc
namespace Lay
def layR (sh : List Sheet) (r : Rc) (j : Nat) : List Sheet := if laysB r = true then updS sh r.page.toNat fun s => (lay s.1 r.pos.toNat (lrows r.aft), (j : Int) + 1) else sh
def stepR (l : List Rc) (sh : List Sheet) (j : Nat) : List Sheet := match l[j]? with
 | some r => layR sh r j
 | none => sh
def fwd (l : List Rc) (sh : List Sheet) (a n : Nat) : List Sheet := (List.range' a n).foldl (stepR l) sh
theorem fwd_zero {l : List Rc} {sh : List Sheet} {a : Nat} : fwd l sh a 0 = sh := rfl
theorem fwd_succ {l : List Rc} {sh : List Sheet} {a n : Nat} : fwd l sh a (n + 1) = stepR l (fwd l sh a n) (a + n) := by
 unfold fwd
 rw [List.range'_concat, List.foldl_append]
 simp
theorem layR_length {sh : List Sheet} {r : Rc} {j : Nat} : (layR sh r j).length = sh.length := by
 unfold layR; split
 · exact updS_length
 rfl
theorem stepR_length {l : List Rc} {sh : List Sheet} {j : Nat} : (stepR l sh j).length = sh.length := by
 unfold stepR; split
 · exact layR_length
 rfl
theorem fwd_length {l : List Rc} {sh : List Sheet} {a : Nat} : ∀ {n : Nat}, (fwd l sh a n).length = sh.length
 | 0 => rfl
 | n + 1 => by rw [fwd_succ, stepR_length, fwd_length]
def RIn (l : List Rc) : Prop := ∀ r ∈ l, r.Ok ∧ r.In
theorem layR_ok {sh : List Sheet} {r : Rc} {j : Nat} (h : ShOk sh) (hr : r.Ok) (hi : r.In) : ShOk (layR sh r j) := by
 have hp0 := hi.p0
 have hp1 := hi.p1
 have hna : r.na = (lrows r.aft).length := rfl
 unfold layR
 split
 · refine h.upd fun s h1 h2 => ⟨?_, lay_bs h2 hr.aft.2.2⟩
   show (lay s.1 _ _).length = 128
   rw [lay_length (by omega)]; exact h1
 exact h
theorem stepR_ok {l : List Rc} {sh : List Sheet} {j : Nat} (hl : RIn l) (h : ShOk sh) : ShOk (stepR l sh j) := by
 unfold stepR
 split
 · rename_i r hr
   obtain ⟨a, b⟩ := hl r (List.mem_of_getElem? hr)
   exact layR_ok h a b
 exact h
theorem fwd_ok {l : List Rc} {sh : List Sheet} {a : Nat} (hl : RIn l) (h : ShOk sh) : ∀ {n : Nat}, ShOk (fwd l sh a n)
 | 0 => h
 | n + 1 => by rw [fwd_succ]; exact stepR_ok hl (fwd_ok hl h)
structure FInv (q r1 : Nat) (Hx : Hp) (L : Nat) (locs : List Nat) (last0 : Int) (sh : List Sheet) : Prop where
 img : Img Hx L locs sh
 o : Hx[q]? = some (.arr 42 2 [[.int .i64 last0, .row false L 0 120]])
 r : Hx[r1]? = some (.arr 42 2 [[.int .i64 0, .nils]])
 n : sh.length = 120
 nL : L ≠ q ∧ L ≠ r1
 nl : q ∉ locs ∧ r1 ∉ locs
section
variable {q r1 L : Nat} {Hx : Hp} {locs : List Nat} {last0 : Int} {sh : List Sheet}
theorem FInv.app (h : FInv q r1 Hx L locs last0 sh) (g : Hp) : FInv q r1 (Hx ++ g) L locs last0 sh := ⟨h.img.app, get_app h.o, get_app h.r, h.n, h.nL, h.nl⟩
theorem FInv.byte (h : FInv q r1 Hx L locs last0 sh) {i l : Nat} {s : Sheet} {b : List (List AV)} (hl : locs[i]? = some l) (hs : sh[i]? = some s) (hb : b.length = s.1.length) : FInv q r1 (Hx.set l (.arr 5 1 b)) L locs last0 (sh.set i (b, s.2)) := by
 have hm := List.mem_of_getElem? hl
 exact ⟨h.img.byte hl hs hb, get_set h.o (fun e => h.nl.1 (e ▸ hm)), get_set h.r (fun e => h.nl.2 (e ▸ hm)), by simp [h.n], h.nL, h.nl⟩
theorem FInv.stamp (h : FInv q r1 Hx L locs last0 sh) {i l : Nat} {s : Sheet} {k : Int} {rows : List (List AV)} (hr : Hx[L]? = some (.arr 95 2 rows)) (hl : locs[i]? = some l) (hs : sh[i]? = some s) : FInv q r1 (Hx.set L (.arr 95 2 (rows.set i [.row false l 0 s.1.length, .int .i64 k]))) L locs last0 (sh.set i (s.1, k)) :=
 ⟨h.img.stamp hr hl hs, get_set h.o h.nL.1, get_set h.r h.nL.2, by simp [h.n], h.nL, h.nl⟩
theorem FInv.at (h : FInv q r1 Hx L locs last0 sh) {i : Nat} (hi : i < 120) : ∃ l s rows, locs[i]? = some l ∧ sh[i]? = some s ∧ Hx[L]? = some (.arr 95 2 rows) ∧ rows[i]? = some [.row false l 0 s.1.length, .int .i64 s.2] ∧ Hx[l]? = some (.arr 5 1 s.1) := by
 have hn := h.n
 have hlen := h.img.len
 obtain ⟨rows, e1, e2, e3⟩ := h.img.row
 have hl : locs[i]? = some locs[i] := List.getElem?_eq_getElem (by omega)
 have hs : sh[i]? = some sh[i] := List.getElem?_eq_getElem (by omega)
 exact ⟨_, _, rows, hl, hs, e1, e3 i _ _ hl hs, h.img.byt i _ _ hl hs⟩
theorem FInv.ret (h : FInv q r1 Hx L locs last0 sh) (hv : ShOk sh) {last : Int} {o1 o2 : VO} : retv ((Hx.set q o1).set r1 o2) (.agg [.int .i64 last, .row false L 0 120]) = some (.agg [.int .i64 last, .list .loose (shRows sh)]) := by
 have hi := (h.img.other (k := q) (o := o1) h.nL.1.symm h.nl.1).other (k := r1) (o := o2) h.nL.2.symm h.nl.2
 show (mapL (ret0 _) [.int .i64 last, .row false L 0 120]).map AV.agg = _
 simp only [mapL, hi.ret h.n hv]
 rfl
end
theorem layR_set {sh : List Sheet} {r : Rc} {j : Nat} {s : Sheet} (hl : laysB r = true) (hs : sh[r.page.toNat]? = some s) : layR sh r j = (sh.set r.page.toNat (lay s.1 r.pos.toNat (lrows r.aft), s.2)).set r.page.toNat (lay s.1 r.pos.toNat (lrows r.aft), (j : Int) + 1) := by
 rw [layR, if_pos hl, updS_at hs, List.set_set]
theorem layR_no {sh : List Sheet} {r : Rc} {j : Nat} (hl : laysB r = false) : layR sh r j = sh := by rw [layR, if_neg (by rw [hl]; decide)]
theorem shOf_len {rows : List (List AV)} : (shOf rows).length = rows.length := by simp [shOf]
set_option maxHeartbeats 8000000 in
theorem bForward (G : Glob) (last : Int) (tg : Tg) (rows : List (List AV)) (x : AV) (l : List Rc) (hx : Recs x l) (hl : l.length ≤ 1000000) (h0 : 0 ≤ last) (hn : rows.length = 120) (hPI : ∀ r ∈ rows, PageIs r) (hSh : ShOk (shOf rows)) (hR : RIn l) : Vi.Fn Tryz.prog G 55 [.agg [.int .i64 last, .list tg rows], x] (.agg [.int .i64 l.length, .list .loose (shRows (fwd l (shOf rows) last.toNat (l.length - last.toNat)))]) := by
 have hL := hx.isL
 have hxl : (lrows x).length = l.length := by rw [hx.rows]; simp
 have hne : rows ≠ [] := fun e => by rw [e] at hn; cases hn
 refine fn_body (fun o => match o.op with | .call ⟨.value (.func f), _, _⟩ => if f = 69 then .shr else .iso | _ => .iso) Tryz.func55 rfl ?_
 refine vc_norm (env' := (_::_::_::_::_::_::_::_::_::_::_::_::_::_::_::_::_::_::_::_::_::_::_::_::_::_::_::_::_::_::_::_::_::_::_::_::_::_::_::_::_::_::_::_::_::_::_::_::[])) (H' := []) rfl rfl ?_
 refine vs (wr ?_)
 refine w_opH (v := .ptr 0 0 0) (env' := _) (H2 := [.arr 42 2 [[_, _]]]) rfl rfl rfl rfl (fun _ h => h) (v48 rfl ?_)
 refine w_opH (v := .ptr 1 0 0) (env' := _) (H2 := [.arr 42 2 [[_, _]], .arr 42 2 [[_, _]]]) rfl rfl rfl rfl (fun _ h => h) (v48 rfl ?_)
 refine we rfl (vs (wr ?_))
 refine wN (v := .agg [_, _]) rfl rfl rfl (v48 rfl ?_)
 refine w_callS rfl rfl rfl (by kernel_rfl) rfl (t15 G _ last tg rows hne (by omega) hPI) ?_
 rintro _ H6 ⟨L, locs, rfl, hI, hLl, hlocs, hpre⟩
 have h60 := hpre 0 _ rfl
 have h61 := hpre 1 _ rfl
 rw [hn]
 refine v48 rfl ?_
 refine w_op0N (H2 := (H6.set 0 (VO.arr 42 2 [[.int .i64 last, .row false L 0 120]]))) rfl (g_store h60 rfl rfl sz42 ⟨rfl, by simp, by decide⟩) (rfl) (fun _ h => h) ?_
 refine we rfl (vs (vs ?_))
 have hF0 : FInv 0 1 (H6.set 0 (VO.arr 42 2 [[.int .i64 last, .row false L 0 120]])) L locs last (shOf rows) := ⟨hI.other (by simp at hLl; omega) (fun h => by have := hlocs 0 h; simp at this), get_self h60, get_set h61 (by decide), by rw [shOf_len, hn], ⟨by simp at hLl; omega, by simp at hLl; omega⟩, ⟨fun h => by have := hlocs 0 h; simp at this, fun h => by have := hlocs 1 h; simp at this⟩⟩
 refine wr ?_
 refine wN (v := .ptr 0 0 0) rfl rfl rfl (v48 rfl ?_)
 refine wN (v := .int .i64 last) rfl (g_load (get_self h60) rfl rfl) rfl (v48 rfl ?_)
 refine wN rfl rfl rfl (v48 rfl ?_)
 refine we rfl (vc_block ?_)
 refine vc_loopX (α := { a : Nat × Hp // last.toNat ≤ a.1 ∧ (a.1 ≤ l.length ∨ a.1 = last.toNat) ∧ FInv 0 1 a.2 L locs last (fwd l (shOf rows) last.toNat (a.1 - last.toNat)) ∧ ShOk (fwd l (shOf rows) last.toNat (a.1 - last.toNat)) }) (fun a => (rnone 5 ++ ([some (.int .i64 (a.1.1 : Nat)), some .undef, some .undef] ++ (rnone 4 ++ (rundef 32 ++ (rnone 4)))))) (fun a => a.1.2) (fun a => l.length - a.1.1) ⟨(last.toNat, _), Nat.le_refl _, .inr rfl, by simpa [fwd_zero] using hF0, by simpa [fwd_zero] using hSh⟩ (by repeat' first | exact trivial | refine ⟨.inr rfl, ?_⟩ | refine ⟨.inl rfl, ?_⟩ | refine ⟨.inl (congrArg (AV.int .i64) (show ((last.toNat : Nat) : Int) = last by omega)), ?_⟩ | fail) rfl ?_
 rintro ⟨⟨i, Hx⟩, hil, hiu, hF, hSx⟩ Y0 hY0
 refine vc_norm (env' := (_::_::_::_::_::(.int .i64 (i : Int))::_::_::_::_::_::_::_::_::_::_::_::_::_::_::_::_::_::_::_::_::_::_::_::_::_::_::_::_::_::_::_::_::_::_::_::_::_::_::_::_::_::_::[])) (H' := Hx) rfl rfl ?_
 replace hil : last.toNat ≤ i := hil
 replace hF : FInv 0 1 Hx L locs last (fwd l (shOf rows) last.toNat (i - last.toNat)) := hF
 replace hSx : ShOk (fwd l (shOf rows) last.toNat (i - last.toNat)) := hSx
 refine vs (vs (wr ?_))
 iterate 2 refine wN rfl rfl rfl (v48 rfl ?_)
 first | refine wN rfl rfl rfl (v48 rfl ?_) | refine x_len rfl rfl ‹_› Tryz.underlying43 rfl (v48 rfl ?_)
 refine wN rfl rfl rfl (v48 rfl ?_)
 refine we rfl ?_
 refine vc_cond rfl (fun hc15 => ?_) (fun hc15 => ?_)
 ·
  have hlt : i < l.length := by have := of_decide_eq_true hc15; omega
  obtain ⟨r, hr⟩ : ∃ r, l[i]? = some r := ⟨_, List.getElem?_eq_getElem hlt⟩
  have hri := hx.at hr
  have hrm := List.mem_of_getElem? hr
  have hOk := hx.ok r hrm
  have hIn := (hR r hrm).2
  have hp0 := hIn.p0
  have hp1 := hIn.p1
  have hg0 := hIn.g0
  have hg1 := hIn.g1
  have hna : r.na = (lrows r.aft).length := rfl
  have hst : stepR l (fwd l (shOf rows) last.toNat (i - last.toNat)) i = layR (fwd l (shOf rows) last.toNat (i - last.toNat)) r i := by simp only [stepR, hr]
  have hsn : fwd l (shOf rows) last.toNat (i + 1 - last.toNat) = layR (fwd l (shOf rows) last.toNat (i - last.toNat)) r i := by
   rw [show i + 1 - last.toNat = (i - last.toNat) + 1 by omega, fwd_succ, show last.toNat + (i - last.toNat) = i by omega, hst]
  refine vc_skip (n_then (vs (vc_block (vs (wr ?_)))))
  iterate 2 refine wN rfl rfl rfl (v48 rfl ?_)
  first | refine wN (v := .iptr _ [_, _, _, _, _, _, _, _, _, _]) rfl rfl rfl (v48 rfl ?_) | (refine x_index rfl rfl ‹_› rfl el43 (by omega) ‹_› rfl (fun bo => ?_); refine v48 rfl ?_)
  refine wN (v := .agg r.row) rfl (rfl) rfl (v48 rfl ?_)
  refine w_opH (v := .ptr Hx.length 0 0) (env' := _) (H2 := (Hx ++ [VO.arr 93 10 [[.int .i64 0, .int .i64 0, .int .i64 0, .int .i64 0, .nils, .nils, .int .i64 0, .int .i64 0, .str ⟨#[]⟩, .nils]]])) rfl (g_alloc zr93b rfl rfl) rfl (rfl) (fun _ h => h) (v48 rfl ?_)
  refine w_op0N (H2 := (Hx ++ [VO.arr 93 10 [r.row]])) rfl (g_store get_last rfl rfl sz93 ⟨rfl, by simp [Rc.row], by decide⟩) (set_last) (fun _ h => h) ?_
  refine we rfl (vs (wr ?_))
  refine wN (v := .agg r.row) rfl (g_load get_last rfl rfl) rfl (v48 rfl ?_)
  refine w_callI (env' := _) rfl rfl rfl (by kernel_rfl) rfl (mapL_cons hOk.lend rfl) (sLays G r hOk) rfl (v48 rfl ?_)
  refine we rfl ?_
  refine vc_cond rfl (fun hc23 => ?_) (fun hc23 => ?_)
  ·
   refine vs ?_
   have hly : laysB r = true := hc23
   have hI2 := hF.app [VO.arr 93 10 [r.row]]
   obtain ⟨lp, s, prow, hlp, hsp, hpr, hprp, hby⟩ := hI2.at (i := r.page.toNat) (by omega)
   have h128 := (hSx s (List.mem_of_getElem? hsp)).1
   refine wr ?_
   refine wN (v := .ptr 0 0 1) rfl rfl rfl (v48 rfl ?_)
   refine wN (v := .row false L 0 120) rfl (g_load hI2.o rfl rfl) rfl (v48 rfl ?_)
   refine wN (v := .ptr Hx.length 0 2) rfl rfl rfl (v48 rfl ?_)
   refine wN (v := .int .i64 r.page) rfl (g_load get_last rfl rfl) rfl (v48 rfl ?_)
   refine wN (v := .ptr L r.page.toNat 0) rfl (g_index0 el40 hpr (by omega) (by omega)) rfl (v48 rfl ?_)
   refine wN rfl rfl rfl (v48 rfl ?_)
   refine we rfl (vs (w_regionD (by kernel_rfl) ?_))
   iterate 3 refine dN rfl rfl rfl (d48 rfl ?_)
   refine dN (v := .row false lp 0 s.1.length) rfl (g_load hpr hprp rfl) rfl (d48 rfl ?_)
   refine dN (v := .ptr Hx.length 0 3) rfl rfl rfl (d48 rfl ?_)
   refine dN (v := .int .i64 r.pos) rfl (g_load get_last rfl rfl) rfl (d48 rfl ?_)
   refine dN (v := .row false lp r.pos.toNat (s.1.length - r.pos.toNat)) rfl (g_slice0 Tryz.underlying68 sz5 hby (by omega) (by omega)) rfl (d48 rfl ?_)
   refine dN (v := .ptr Hx.length 0 5) rfl rfl rfl (d48 rfl ?_)
   refine dN (v := r.aft) rfl (g_load get_last rfl rfl) rfl (d48 rfl ?_)
   refine d_opH (v := .int .i64 ((lrows r.aft).length : Nat)) (env' := _) (H2 := ((Hx ++ [VO.arr 93 10 [r.row]]).set lp (VO.arr 5 1 (lay s.1 r.pos.toNat (lrows r.aft))))) rfl (g_copyL (b := false) (x := r.aft) (rows' := lrows r.aft) (i := r.pos.toNat) (m := s.1.length - r.pos.toNat) el68 hby hOk.aft.1.src (bytes_len hOk.aft.2.2) (by decide) hOk.aft.1.notStr (by omega) (by omega)) (.inl rfl) rfl (rfl) (fun _ h => h) (d48 rfl ?_)
   refine d_end rfl ?_
   have hI3 := hI2.byte (b := lay s.1 r.pos.toNat (lrows r.aft)) hlp hsp (lay_length (by omega))
   have hpr2 := get_set (o' := VO.arr 5 1 (lay s.1 r.pos.toNat (lrows r.aft))) hpr (hI2.img.ne lp (List.mem_of_getElem? hlp))
   refine wr ?_
   iterate 2 refine wN rfl rfl rfl (v48 rfl ?_)
   refine wN (v := .int .i64 ((i : Int) + 1)) rfl (int_eq (i64_small (by omega) (by omega))) rfl (v48 rfl ?_)
   iterate 2 refine wN rfl rfl rfl (v48 rfl ?_)
   refine w_op0N (H2 := (((Hx ++ [VO.arr 93 10 [r.row]]).set lp (VO.arr 5 1 (lay s.1 r.pos.toNat (lrows r.aft)))).set L (VO.arr 95 2 (prow.set r.page.toNat [.row false lp 0 s.1.length, .int .i64 ((i : Int) + 1)])))) rfl (g_store hpr2 hprp rfl sz3 ⟨rfl, by simp, by decide⟩) (rfl) (fun _ h => h) ?_
   refine w_endB rfl (n_then (wr ?_))
   iterate 3 refine wN rfl rfl rfl (v48 rfl ?_)
   refine we rfl ?_
   refine hY0 ⟨(i + 1, _), by omega, .inl hlt, by show FInv 0 1 _ L locs last (fwd l (shOf rows) last.toNat (i + 1 - last.toNat)); rw [hsn, layR_set hly hsp]; have h9 := hI3.stamp (s := (lay s.1 r.pos.toNat (lrows r.aft), s.2)) (k := (i : Int) + 1) hpr2 hlp (List.getElem?_set_self (List.getElem?_eq_some_iff.1 hsp).1); simp only [lay_length (show r.pos.toNat + (lrows r.aft).length ≤ s.1.length by omega)] at h9; exact h9, by show ShOk (fwd l (shOf rows) last.toNat (i + 1 - last.toNat)); rw [hsn]; exact layR_ok hSx hOk hIn⟩ (by simp only; omega) _ _ ?_ rfl
   repeat' first | exact trivial | refine ⟨.inr rfl, ?_⟩ | refine ⟨.inl rfl, ?_⟩ | refine ⟨.inl ?_, ?_⟩ | fail
   all_goals first | exact (int_succ (by omega)).symm
  have hly : laysB r = false := hc23
  refine vc_skip (n_block (n_then (wr ?_)))
  iterate 3 refine wN rfl rfl rfl (v48 rfl ?_)
  refine we rfl ?_
  refine hY0 ⟨(i + 1, _), by omega, .inl hlt, by show FInv 0 1 _ L locs last (fwd l (shOf rows) last.toNat (i + 1 - last.toNat)); rw [hsn, layR_no hly]; exact hF.app [VO.arr 93 10 [r.row]], by show ShOk (fwd l (shOf rows) last.toNat (i + 1 - last.toNat)); rw [hsn]; exact layR_ok hSx hOk hIn⟩ (by simp only; omega) _ _ ?_ rfl
  repeat' first | exact trivial | refine ⟨.inr rfl, ?_⟩ | refine ⟨.inl rfl, ?_⟩ | refine ⟨.inl ?_, ?_⟩ | fail
  all_goals first | exact (int_succ (by omega)).symm
 have hge : l.length ≤ i := by have := of_decide_eq_false hc15; omega
 refine vc_exit (x_then (x_then (x_same (n_then (vs (wr ?_))))))
 refine wN rfl rfl rfl (v48 rfl ?_)
 refine wN (v := .int .i64 l.length) rfl ((by rw [← hxl]; exact vlen_isL hL Tryz.underlying43)) rfl (v48 rfl ?_)
 refine wN (v := .ptr 0 0 0) rfl rfl rfl (v48 rfl ?_)
 refine w_op0N (H2 := (Hx.set 0 (VO.arr 42 2 [[.int .i64 l.length, .row false L 0 120]]))) rfl (g_store hF.o rfl rfl sz3 ⟨rfl, by simp, by decide⟩) (rfl) (fun _ h => h) ?_
 refine we rfl (vs (wr ?_))
 refine wN (v := .agg [.int .i64 l.length, .row false L 0 120]) rfl (g_load (get_self hF.o) rfl rfl) rfl (v48 rfl ?_)
 refine w_op0N (H2 := ((Hx.set 0 (VO.arr 42 2 [[.int .i64 l.length, .row false L 0 120]])).set 1 (VO.arr 42 2 [[.int .i64 l.length, .row false L 0 120]]))) rfl (g_store (get_set hF.r (by decide)) rfl rfl sz42 ⟨rfl, by simp, by decide⟩) (rfl) (fun _ h => h) ?_
 refine we rfl (vc_ret ?_)
 refine r_fn (vres_cell rfl rfl (g_vload (get_self (get_set hF.r (by decide))) rfl rfl)) ?_
 have hfin : fwd l (shOf rows) last.toNat (i - last.toNat) = fwd l (shOf rows) last.toNat (l.length - last.toNat) := by rw [show i - last.toNat = l.length - last.toNat by omega]
 rw [hfin] at hF hSx
 exact hF.ret hSx
end Lay
end Go.Vi
namespace Go.Vi
open Go Go.Vi Go.Proofs
attribute [local irreducible] vops vopsD vc
namespace Lay
theorem shOf_shRows (sh : List Sheet) : shOf (shRows sh) = sh := by
 unfold shOf shRows
 rw [List.map_map]
 conv => rhs; rw [← List.map_id sh]
 exact List.map_congr_left fun s _ => rfl
theorem shRows_len {sh : List Sheet} : (shRows sh).length = sh.length := by simp [shRows]
theorem pagesIs {sh : List Sheet} (h : ShOk sh) : ∀ r ∈ shRows sh, PageIs r := by
 intro r hr
 obtain ⟨s, hs, rfl⟩ := List.mem_map.1 hr
 obtain ⟨h1, h2⟩ := h s hs
 have hne : s.1 ≠ [] := fun e => by rw [e] at h1; cases h1
 exact ⟨.loose, s.1, s.2, rfl, hne, by omega, h2⟩
theorem of_in : ∀ {l : List Rc} {s s' : St}, s.of l = some s' → ∀ r ∈ l, r.In
 | [], s, s', h, r, hr => by cases hr
 | q::l, s, s', h, r, hr => by
   simp only [St.of] at h
   split at h
   · rename_i hq
     rcases List.mem_cons.1 hr with rfl | hr
     · exact validP_in (follows_valid hq)
     exact of_in h r hr
   cases h
theorem sound_some {l : List Rc} (h : soundR l = true) : ∃ s, St.new.of l = some s := Option.isSome_iff_exists.1 h
theorem sound_in {x : AV} {l : List Rc} (hx : Recs x l) (h : soundR l = true) : RIn l := by
 obtain ⟨s, hs⟩ := sound_some h
 exact fun r hr => ⟨hx.ok r hr, of_in hs r hr⟩
noncomputable def copyR (l : List Rc) : AV := if soundR l = true then okR l.length (fwd l zeroSh 0 l.length) else errR 50
noncomputable def recR (last0 : Int) (rows : List (List AV)) (l : List Rc) : AV := if validB last0 rows = true then (if soundR l = true then (if last0 > l.length then errR 2 else okR l.length (fwd l (shOf rows) last0.toNat (l.length - last0.toNat))) else errR 50) else errR 270
set_option maxHeartbeats 8000000 in
theorem bCopy (G : Glob) (x : AV) (l : List Rc) (hx : Recs x l) (hl : l.length ≤ 1000000) : Vi.Fn Tryz.prog G 23 [x] (copyR l) := by
 have hL := hx.isL
 refine fn_body (fun _ => .iso) Tryz.func23 rfl ?_
 refine vc_norm (env' := [_, _, _, _, _, _, _, _, _, _, _]) (H' := []) rfl rfl ?_
 refine vs (wr ?_)
 refine w_opH (v := .ptr 0 0 0) (env' := _) (H2 := [.arr 42 2 [[_, _]]]) rfl rfl rfl rfl (fun _ h => h) (v11 rfl ?_)
 refine wN rfl rfl rfl (v11 rfl ?_)
 refine we rfl (vs (vs (wr ?_)))
 refine wN rfl rfl rfl (v11 rfl ?_)
 refine w_callI (env' := _) rfl rfl rfl (by kernel_rfl) rfl (by repeat' first | exact IsL.lend ‹_› | exact IsL.lend0 ‹_› | refine mapL_cons ?_ ?_ | refine lend_agg ?_ | rfl) (sSound G x l hx hl) rfl (v11 rfl ?_)
 refine wN rfl rfl rfl (v11 rfl ?_)
 refine we rfl ?_
 refine vc_cond rfl (fun hc6 => ?_) (fun hc6 => ?_)
 ·
  have hs : soundR l = false := by simpa using hc6
  refine vs (wr ?_)
  refine wN (v := .agg [_, _]) rfl rfl rfl (v11 rfl ?_)
  refine w_op0N (H2 := [.arr 42 2 [[_, _]]]) rfl rfl rfl (fun _ h => h) ?_
  refine wN rfl rfl rfl (v11 rfl ?_)
  refine we rfl (vc_ret (r_then (r_fn rfl ?_)))
  rw [copyR, if_neg (by rw [hs]; decide)]
  rfl
 have hs : soundR l = true := by simpa using hc6
 refine vc_skip (n_then (vs (wr ?_)))
 refine w_callI (env' := _) rfl rfl rfl (by kernel_rfl) rfl (by repeat' first | exact IsL.lend ‹_› | exact IsL.lend0 ‹_› | refine mapL_cons ?_ ?_ | refine lend_agg ?_ | rfl) (bBlankF G) rfl (v11 rfl ?_)
 refine wN rfl rfl rfl (v11 rfl ?_)
 refine w_callI (env' := _) rfl rfl rfl (by kernel_rfl) rfl (by repeat' first | exact IsL.lend ‹_› | exact IsL.lend0 ‹_› | refine mapL_cons ?_ ?_ | refine lend_agg ?_ | rfl) (bForward G 0 .loose (shRows zeroSh) x l hx hl (Int.le_refl 0) (by rw [shRows_len]; exact List.length_replicate ..) (pagesIs zeroSh_ok) (by rw [shOf_shRows]; exact zeroSh_ok) (sound_in hx hs)) rfl (v11 rfl ?_)
 refine w_op0N (H2 := [.arr 42 2 [[_, _]]]) rfl rfl rfl (fun _ h => h) ?_
 refine wN rfl rfl rfl (v11 rfl ?_)
 refine we rfl (vc_ret (r_fn rfl ?_))
 rw [copyR, if_pos hs, shOf_shRows]
 rfl
set_option maxHeartbeats 8000000 in
theorem bRecover (G : Glob) (last0 : Int) (pages : AV) (hPL : IsL pages) (hv : pages.isVal = true) (hlen : (lrows pages).length < 9223372036854775808) (hp : ∀ r ∈ lrows pages, PageOk r) (x : AV) (l : List Rc) (hx : Recs x l) (hl : l.length ≤ 1000000) : Vi.Fn Tryz.prog G 20 [.agg [.int .i64 last0, pages], x] (recR last0 (lrows pages) l) := by
 have hL := hx.isL
 have hxl : (lrows x).length = l.length := by rw [hx.rows]; simp
 refine fn_body (fun _ => .iso) Tryz.func20 rfl ?_
 refine vc_norm (env' := (_::_::_::_::_::_::_::_::_::_::_::_::_::_::_::_::_::_::_::_::_::_::_::_::_::_::[])) (H' := []) rfl rfl ?_
 refine vs (wr ?_)
 refine w_opH (v := .ptr 0 0 0) (env' := _) (H2 := [.arr 42 2 [[_, _]]]) rfl rfl rfl rfl (fun _ h => h) (v26 rfl ?_)
 refine w_opH (v := .ptr 1 0 0) (env' := _) (H2 := [.arr 42 2 [[_, _]], .arr 42 2 [[_, _]]]) rfl rfl rfl rfl (fun _ h => h) (v26 rfl ?_)
 refine wN rfl rfl rfl (v26 rfl ?_)
 refine we rfl (vs (vc_block (vs (wr ?_))))
 refine wN (v := .agg [_, _]) rfl rfl rfl (v26 rfl ?_)
 refine w_callI (env' := _) rfl rfl rfl (by kernel_rfl) rfl (by repeat' first | exact IsL.lend ‹_› | exact IsL.lend0 ‹_› | refine mapL_cons ?_ ?_ | refine lend_agg ?_ | rfl) (t11 G last0 pages hPL hv hlen (fun r hr => by obtain ⟨b, s, rfl, hb⟩ := hp r hr; exact ⟨b, s, rfl, hb.1⟩)) rfl (v26 rfl ?_)
 iterate 2 refine wN rfl rfl rfl (v26 rfl ?_)
 refine we rfl ?_
 refine vc_cond rfl (fun hc6 => ?_) (fun hc6 => ?_)
 ·
  refine vs (wr ?_)
  refine wN (v := .agg [_, _]) rfl rfl rfl (v26 rfl ?_)
  refine w_op0N (H2 := [.arr 42 2 [[_, _]], .arr 42 2 [[_, _]]]) rfl rfl rfl (fun _ h => h) ?_
  refine wN rfl rfl rfl (v26 rfl ?_)
  refine we rfl (vc_ret (r_block (r_then (r_fn rfl ?_))))
  have hval : validB last0 (lrows pages) = false := by simpa using hc6
  show retv _ _ = some (recR last0 (lrows pages) l)
  rw [recR, if_neg (by rw [hval]; decide)]
  rfl
 have hval : validB last0 (lrows pages) = true := by simpa using hc6
 refine vs (wr ?_)
 refine wN rfl rfl rfl (v26 rfl ?_)
 refine w_callI (env' := _) rfl rfl rfl (by kernel_rfl) rfl (by repeat' first | exact IsL.lend ‹_› | exact IsL.lend0 ‹_› | refine mapL_cons ?_ ?_ | refine lend_agg ?_ | rfl) (sSound G x l hx hl) rfl (v26 rfl ?_)
 iterate 2 refine wN rfl rfl rfl (v26 rfl ?_)
 refine we rfl ?_
 refine vc_cond rfl (fun hc11 => ?_) (fun hc11 => ?_)
 ·
  refine vs (wr ?_)
  refine wN (v := .agg [_, _]) rfl rfl rfl (v26 rfl ?_)
  refine w_op0N (H2 := [.arr 42 2 [[_, _]], .arr 42 2 [[_, _]]]) rfl rfl rfl (fun _ h => h) ?_
  refine wN rfl rfl rfl (v26 rfl ?_)
  refine we rfl (vc_ret (r_block (r_then (r_fn rfl ?_))))
  have hs : soundR l = false := by simpa using hc11
  show retv _ _ = some (recR last0 (lrows pages) l)
  rw [recR, if_pos hval, if_neg (by rw [hs]; decide)]
  rfl
 have hs : soundR l = true := by simpa using hc11
 refine vs (wr ?_)
 refine wN (v := .ptr 0 0 0) rfl rfl rfl (v26 rfl ?_)
 iterate 2 refine wN rfl rfl rfl (v26 rfl ?_)
 first | refine wN rfl rfl rfl (v26 rfl ?_) | refine x_len rfl rfl ‹_› Tryz.underlying43 rfl (v26 rfl ?_)
 iterate 2 refine wN rfl rfl rfl (v26 rfl ?_)
 refine we rfl ?_
 refine vc_cond rfl (fun hc16 => ?_) (fun hc16 => ?_)
 ·
  refine vs (wr ?_)
  refine wN (v := .agg [_, _]) rfl rfl rfl (v26 rfl ?_)
  refine w_op0N (H2 := [.arr 42 2 [[_, _]], .arr 42 2 [[_, _]]]) rfl rfl rfl (fun _ h => h) ?_
  refine wN rfl rfl rfl (v26 rfl ?_)
  refine we rfl (vc_ret (r_block (r_then (r_fn rfl ?_))))
  have hgt : last0 > l.length := by have := of_decide_eq_true hc16; rw [hxl] at this; omega
  show retv _ _ = some (recR last0 (lrows pages) l)
  rw [recR, if_pos hval, if_pos hs, if_pos hgt]
  rfl
 have hle : ¬ last0 > l.length := by have := of_decide_eq_false hc16; rw [hxl] at this; omega
 refine vc_skip (n_block (n_then (vs ?_)))
 obtain ⟨h120, hne, hPI, hSh⟩ := valid_pages hval hp
 have h0 : 0 ≤ last0 := by simp only [validB, Bool.and_eq_true, decide_eq_true_eq] at hval; exact hval.1.1.1
 obtain ⟨tg, rows, rfl⟩ : ∃ tg rows, pages = .list tg rows := by
  rcases hPL with rfl | ⟨t, r, rfl⟩
  · exact absurd rfl hne
  exact ⟨t, r, rfl⟩
 have hfw := bForward G last0 tg rows x l hx hl h0 h120 hPI hSh (sound_in hx hs)
 refine wr ?_
 refine wN (v := .agg [_, _]) rfl rfl rfl (v26 rfl ?_)
 refine wN rfl rfl rfl (v26 rfl ?_)
 refine w_callI (env' := _) rfl rfl rfl (by kernel_rfl) rfl (by repeat' first | exact IsL.lend ‹_› | exact IsL.lend0 ‹_› | refine mapL_cons ?_ ?_ | refine lend_agg ?_ | rfl) (hfw) rfl (v26 rfl ?_)
 refine w_op0N (H2 := [.arr 42 2 [[_, _]], .arr 42 2 [[_, _]]]) rfl rfl rfl (fun _ h => h) ?_
 refine wN rfl rfl rfl (v26 rfl ?_)
 refine we rfl (vc_ret (r_fn rfl ?_))
 show retv _ _ = some (recR last0 rows l)
 have hv2 : validB last0 rows = true := hval
 rw [recR, if_pos hv2, if_pos hs, if_neg hle]
 rfl
end Lay
end Go.Vi
namespace Go.Vi
open Go Go.Vi Go.Proofs
attribute [local irreducible] vops vopsD vc
namespace Lay
end Lay
end Go.Vi
namespace Go.Vi
namespace Lay
open Go Go.Vi Go.Proofs
def hit (r : Rc) (p c : Nat) : Bool := laysB r && (decide (r.page.toNat = p) && (decide (r.pos.toNat ≤ c) && decide (c < r.pos.toNat + (lrows r.aft).length)))
def mk (l : List Rc) (a : Nat) : Nat → Nat → Nat → Bool
 | 0, _, _ => false
 | n + 1, p, c => mk l a n p c || (match l[a + n]? with
   | some r => hit r p c
   | none => false)
theorem mk_next {l : List Rc} {a n p c : Nat} {r : Rc} (h : l[a + n]? = some r) : mk l a (n + 1) p c = (mk l a n p c || hit r p c) := by simp only [mk, h]
theorem mk_no {l : List Rc} {a n p c : Nat} {r : Rc} (h : l[a + n]? = some r) (hl : laysB r = false) : mk l a (n + 1) p c = mk l a n p c := by
 rw [mk_next h, hit, hl]; simp
def mkK (l : List Rc) (a n : Nat) (r : Rc) (k p c : Nat) : Bool := mk l a n p c || (decide (r.page.toNat = p) && (decide (r.pos.toNat ≤ c) && decide (c < r.pos.toNat + k)))
theorem mkK_zero {l : List Rc} {a n p c : Nat} {r : Rc} : mkK l a n r 0 p c = mk l a n p c := by
 unfold mkK
 have : (decide (r.pos.toNat ≤ c) && decide (c < r.pos.toNat + 0)) = false := by
  rw [Bool.and_eq_false_iff, decide_eq_false_iff_not, decide_eq_false_iff_not]; omega
 rw [this]; simp
theorem mkK_next {l : List Rc} {a n p c k : Nat} {r : Rc} : mkK l a n r (k + 1) p c = (mkK l a n r k p c || (decide (r.page.toNat = p) && decide (c = r.pos.toNat + k))) := by
 unfold mkK
 rw [Bool.or_assoc, ← Bool.and_or_distrib_left]
 congr 2
 rw [Bool.eq_iff_iff]
 simp only [Bool.and_eq_true, Bool.or_eq_true, decide_eq_true_eq]
 omega
theorem mkK_full {l : List Rc} {a n p c : Nat} {r : Rc} (h : l[a + n]? = some r) (hl : laysB r = true) : mkK l a n r (lrows r.aft).length p c = mk l a (n + 1) p c := by
 rw [mk_next h, hit, hl]; rfl
def Mk (M : List AV) (g : Nat → Nat → Bool) : Prop := ∀ p c : Nat, p < 120 → c < 128 → M[p * 128 + c]? = some (.bool (g p c))
theorem Mk.congr {M : List AV} {g g' : Nat → Nat → Bool} (h : Mk M g) (e : ∀ p c, g p c = g' p c) : Mk M g' := fun p c hp hc => by rw [← e]; exact h p c hp hc
theorem Mk.next {M : List AV} {g g' : Nat → Nat → Bool} {p0 c0 : Nat} (h : Mk M g) (hp : p0 < 120) (hc : c0 < 128) (e : ∀ p c, g' p c = (g p c || (decide (p0 = p) && decide (c = c0)))) : Mk (M.set (p0 * 128 + c0) (.bool true)) g' := fun p c hp' hc' => by
 have hb := h p0 c0 hp hc
 by_cases hh : p0 = p ∧ c = c0
 · obtain ⟨rfl, rfl⟩ := hh
   rw [List.getElem?_set_self (List.getElem?_eq_some_iff.1 hb).1, e]
   simp
 rw [List.getElem?_set_ne (by omega), h p c hp' hc', e]
 have : (decide (p0 = p) && decide (c = c0)) = false := by
  rw [Bool.and_eq_false_iff, decide_eq_false_iff_not, decide_eq_false_iff_not]; omega
 rw [this, Bool.or_false]
def runEnd (g : Nat → Bool) (e : Nat) : Nat := if h : e < 128 ∧ g e = true then runEnd g (e + 1) else e
termination_by 128 - e
theorem runEnd_go {g : Nat → Bool} {e : Nat} (h1 : e < 128) (h2 : g e = true) : runEnd g (e + 1) = runEnd g e := by
 rw [runEnd.eq_1 g e, dif_pos ⟨h1, h2⟩]
theorem runEnd_stop {g : Nat → Bool} {e : Nat} (h : ¬ (e < 128 ∧ g e = true)) : runEnd g e = e := by
 rw [runEnd, dif_neg h]
theorem runEnd_le (g : Nat → Bool) (e : Nat) : e ≤ runEnd g e ∧ (e ≤ 128 → runEnd g e ≤ 128) := by
 by_cases h : e < 128 ∧ g e = true
 · have := runEnd_le g (e + 1)
   rw [runEnd_go h.1 h.2] at this
   omega
 rw [runEnd_stop h]
 omega
termination_by 128 - e
def pcs (g : Nat → Bool) (b : List (List AV)) (p i : Nat) : List (List AV) :=
 if h : i < 128 then (if i < runEnd g i then [[.int .i64 p, .int .i64 i, .list .loose ((b.drop i).take (runEnd g i - i))]] else []) ++ pcs g b p (runEnd g i + 1) else []
termination_by 128 - i
decreasing_by have := (runEnd_le g i).1; omega
theorem pcs_stop {g : Nat → Bool} {b : List (List AV)} {p i : Nat} (h : ¬ i < 128) : pcs g b p i = [] := by rw [pcs, dif_neg h]
theorem pcs_run {g : Nat → Bool} {b : List (List AV)} {p i e : Nat} (h : i < 128) (he : runEnd g i = e) (hie : i < e) : pcs g b p i = [.int .i64 p, .int .i64 i, .list .loose ((b.drop i).take (e - i))]::pcs g b p (e + 1) := by
 rw [pcs, dif_pos h, he, if_pos hie]; rfl
theorem pcs_next {g : Nat → Bool} {b : List (List AV)} {p i : Nat} (h : i < 128) (he : runEnd g i = i) : pcs g b p i = pcs g b p (i + 1) := by
 rw [pcs, dif_pos h, he, if_neg (by omega)]; rfl
theorem pcs_none {g : Nat → Bool} {b : List (List AV)} {p : Nat} (hg : ∀ c, g c = false) (i : Nat) : pcs g b p i = [] := by
 by_cases h : i < 128
 · rw [pcs_next h (runEnd_stop (by rw [hg]; simp)), pcs_none hg (i + 1)]
 exact pcs_stop h
termination_by 128 - i
def gatP (g : Nat → Nat → Bool) (sh : List Sheet) : Nat → List (List AV)
 | 0 => []
 | k + 1 => gatP g sh k ++ (match sh[k]? with
   | some s => pcs (g k) s.1 k 0
   | none => [])
def stmP (sh : List Sheet) : Nat → List (List AV)
 | 0 => []
 | k + 1 => stmP sh k ++ (match sh[k]? with
   | some s => if 0 < s.2 then [[.int .i64 s.2]] else []
   | none => [])
theorem gatP_next {g : Nat → Nat → Bool} {sh : List Sheet} {k : Nat} {s : Sheet} (h : sh[k]? = some s) : gatP g sh (k + 1) = gatP g sh k ++ pcs (g k) s.1 k 0 := by simp only [gatP, h]
theorem stmP_pos {sh : List Sheet} {k : Nat} {s : Sheet} (h : sh[k]? = some s) (h0 : 0 < s.2) : stmP sh (k + 1) = stmP sh k ++ [[.int .i64 s.2]] := by simp only [stmP, h, if_pos h0]
theorem stmP_no {sh : List Sheet} {k : Nat} {s : Sheet} (h : sh[k]? = some s) (h0 : ¬ 0 < s.2) : stmP sh (k + 1) = stmP sh k := by simp only [stmP, h, if_neg h0, List.append_nil]
theorem stmP_length {sh : List Sheet} : ∀ k, (stmP sh k).length ≤ k
 | 0 => Nat.le_refl _
 | k + 1 => by
   have := stmP_length (sh := sh) k
   simp only [stmP, List.length_append]
   split
   · split <;> simp <;> omega
   simp; omega
theorem pcs_length {g : Nat → Bool} {b : List (List AV)} {p : Nat} (i : Nat) (hi : i ≤ 129) : (pcs g b p i).length + i ≤ 129 := by
 by_cases h : i < 128
 · have h1 := runEnd_le g i
   have h2 := pcs_length (g := g) (b := b) (p := p) (runEnd g i + 1) (by omega)
   by_cases hh : i < runEnd g i
   · rw [pcs_run h rfl hh, List.length_cons]; omega
   have he : runEnd g i = i := by omega
   rw [he] at h2
   rw [pcs_next h he]; omega
 rw [pcs_stop h]; simp; omega
termination_by 128 - i
decreasing_by have := (runEnd_le g i).1; omega
theorem gatP_length {g : Nat → Nat → Bool} {sh : List Sheet} : ∀ k, (gatP g sh k).length ≤ 129 * k
 | 0 => Nat.le_refl _
 | k + 1 => by
   have := gatP_length (g := g) (sh := sh) k
   simp only [gatP, List.length_append]
   split
   · rename_i s _
     have := pcs_length (g := g k) (b := s.1) (p := k) 0 (by omega)
     omega
   simp; omega
def NoSt (g : Nat → Nat → Bool) (sh : List Sheet) : Prop := ∀ (p : Nat) (s : Sheet), sh[p]? = some s → 0 ≤ s.2 ∧ (s.2 = 0 → ∀ c, g p c = false)
theorem noSt_fwd {l : List Rc} {a : Nat} : ∀ {n : Nat}, a + n ≤ l.length → NoSt (mk l a n) (fwd l zeroSh a n)
 | 0, _ => fun p s h => by
   have := List.eq_of_mem_replicate (List.mem_of_getElem? (show zeroSh[p]? = some s from h))
   subst this
   exact ⟨Int.le_refl _, fun _ c => rfl⟩
 | n + 1, hn => fun p s h => by
   obtain ⟨r, hr⟩ : ∃ r, l[a + n]? = some r := ⟨_, List.getElem?_eq_getElem (by omega)⟩
   have ih := noSt_fwd (l := l) (a := a) (n := n) (by omega)
   rw [fwd_succ] at h
   simp only [stepR, hr] at h
   by_cases hl : laysB r = true
   · rw [layR, if_pos hl] at h
     unfold updS at h
     split at h
     · rename_i s0 hs0
       by_cases e : r.page.toNat = p
       · subst e
         rw [List.getElem?_set_self (List.getElem?_eq_some_iff.1 hs0).1] at h
         cases h
         exact ⟨by show 0 ≤ ((a + n : Nat) : Int) + 1; omega, fun h0 => by exfalso; have : ((a + n : Nat) : Int) + 1 = 0 := h0; omega⟩
       rw [List.getElem?_set_ne e] at h
       obtain ⟨h1, h2⟩ := ih p s h
       refine ⟨h1, fun h0 c => ?_⟩
       rw [mk_next hr, h2 h0 c, hit]
       simp [e]
     rename_i hs0
     obtain ⟨h1, h2⟩ := ih p s h
     refine ⟨h1, fun h0 c => ?_⟩
     rw [mk_next hr, h2 h0 c, hit]
     have e : r.page.toNat ≠ p := fun e => by rw [e, h] at hs0; cases hs0
     simp [e]
   have hl' : laysB r = false := by simpa using hl
   rw [layR, if_neg hl] at h
   obtain ⟨h1, h2⟩ := ih p s h
   exact ⟨h1, fun h0 c => by rw [mk_no hr hl']; exact h2 h0 c⟩
def lv (rows : List (List AV)) : AV := if rows = [] then .nils else .list .loose rows
noncomputable def gatherR (l : List Rc) (a : Int) : AV := if soundR l = true then (if a < 0 ∨ a > l.length then .tup [.nils, .nils, .int .i64 2] else .tup [lv (gatP (mk l a.toNat (l.length - a.toNat)) (fwd l zeroSh a.toNat (l.length - a.toNat)) 120), lv (stmP (fwd l zeroSh a.toNat (l.length - a.toNat)) 120), .int .i64 0]) else .tup [.nils, .nils, .int .i64 50]
structure PRows (H : Hp) (rows ps : List (List AV)) : Prop where
 len : rows.length = ps.length
 row : ∀ (i : Nat) (r : List AV), rows[i]? = some r → ∃ (p a : Int) (t : Bool) (l : Nat) (bs : List (List AV)), r = [.int .i64 p, .int .i64 a, .row t l 0 bs.length] ∧ ps[i]? = some [.int .i64 p, .int .i64 a, .list .loose bs] ∧ H[l]? = some (.arr 5 1 bs) ∧ Bs bs
theorem PRows.nil {H : Hp} : PRows H [] [] := ⟨rfl, fun i r h => by cases h⟩
theorem PRows.keep {H H' : Hp} {rows ps : List (List AV)} (h : PRows H rows ps) (hk : ∀ (l : Nat) (bs : List (List AV)), H[l]? = some (.arr 5 1 bs) → H'[l]? = some (.arr 5 1 bs)) : PRows H' rows ps :=
 ⟨h.len, fun i r hr => by
  obtain ⟨p, a, t, l, bs, e1, e2, e3, e4⟩ := h.row i r hr
  exact ⟨p, a, t, l, bs, e1, e2, hk l bs e3, e4⟩⟩
theorem PRows.snoc {H : Hp} {rows ps : List (List AV)} {p a : Int} {t : Bool} {l n : Nat} {bs : List (List AV)} (h : PRows H rows ps) (hl : H[l]? = some (.arr 5 1 bs)) (hn : n = bs.length) (hb : Bs bs) : PRows H (rows ++ [[.int .i64 p, .int .i64 a, .row t l 0 n]]) (ps ++ [[.int .i64 p, .int .i64 a, .list .loose bs]]) := by
 subst hn
 refine ⟨by simp [h.len], fun i r hr => ?_⟩
 by_cases hi : i < rows.length
 · rw [List.getElem?_append_left hi] at hr
   rw [List.getElem?_append_left (by rw [← h.len]; exact hi)]
   exact h.row i r hr
 have hii : i = rows.length := by
  have := (List.getElem?_eq_some_iff.1 hr).1
  simp at this
  omega
 subst hii
 rw [List.getElem?_append_right (Nat.le_refl _)] at hr
 simp at hr
 subst hr
 exact ⟨p, a, t, l, bs, rfl, by rw [h.len, List.getElem?_append_right (Nat.le_refl _)]; simp, hl, hb⟩
theorem PRows.ret {H : Hp} {rows ps : List (List AV)} {L : Nat} (h : PRows H rows ps) (hL : rows = [] ∨ H[L]? = some (.arr 108 3 rows)) : ret1 H (pval L rows) = some (lv ps) := by
 by_cases he : rows = []
 · have hp : ps = [] := List.eq_nil_of_length_eq_zero (by rw [← h.len, he]; rfl)
   subst he
   subst hp
   rfl
 have hp : ps ≠ [] := fun e => he (List.eq_nil_of_length_eq_zero (by rw [h.len, e]; rfl))
 rw [pval, if_neg he, lv, if_neg hp]
 show retD 3 H (.row false L 0 rows.length) = _
 refine retD_row (hL.resolve_left he) rfl (mapL_get2 h.len fun i r y hr hy => ?_)
 obtain ⟨p, a, t, l, bs, rfl, e2, e3, e4⟩ := h.row i r hr
 rw [e2] at hy
 cases hy
 have hval := bytes_val e4
 exact mapL_cons rfl (mapL_cons rfl (mapL_cons (retD_row e3 rfl (mapL_id fun r hr => mapL_id fun x hx => retD_val (List.all_eq_true.1 (List.all_eq_true.1 hval r hr) x hx))) rfl))
theorem int_val {rows : List (List AV)} (h : ∀ r ∈ rows, ∃ v, r = [.int .i64 v]) : allVal rows = true :=
 List.all_eq_true.2 fun q hq => by obtain ⟨v, rfl⟩ := h q hq; rfl
theorem stmP_int {sh : List Sheet} : ∀ k, ∀ r ∈ stmP sh k, ∃ v, r = [AV.int .i64 v]
 | 0, r, h => by cases h
 | k + 1, r, h => by
   simp only [stmP, List.mem_append] at h
   rcases h with h | h
   · exact stmP_int k r h
   split at h
   · split at h
     · simp at h; exact ⟨_, h⟩
     cases h
   cases h
theorem ret_ints {H : Hp} {rows : List (List AV)} {L : Nat} (hv : ∀ r ∈ rows, ∃ v, r = [AV.int .i64 v]) (hL : rows = [] ∨ H[L]? = some (.arr 3 1 rows)) : ret1 H (pval L rows) = some (lv rows) := by
 by_cases he : rows = []
 · subst he; rfl
 rw [pval, if_neg he, lv, if_neg he]
 show retD 3 H (.row false L 0 rows.length) = _
 have hval := int_val hv
 exact retD_row (hL.resolve_left he) rfl (mapL_id fun r hr => mapL_id fun x hx => retD_val (List.all_eq_true.1 (List.all_eq_true.1 hval r hr) x hx))
def PV (b : Nat) (H : Hp) (T : TypeId) (sz : Nat) (v : AV) (rows : List (List AV)) : Prop := ∃ L, v = pval L rows ∧ b ≤ L ∧ (rows = [] ∨ H[L]? = some (.arr T sz rows))
theorem PV.nil {b : Nat} {H : Hp} {T : TypeId} {sz : Nat} : PV b H T sz .nils [] := ⟨b, rfl, Nat.le_refl _, .inl rfl⟩
theorem PV.opn {b : Nat} {H : Hp} {T : TypeId} {sz : Nat} {v : AV} {rows : List (List AV)} (h : PV b H T sz v rows) (n : Nat) (hb : b ≤ n) : ∃ L, v = pval L rows ∧ b ≤ L ∧ ((rows = [] ∧ n ≤ L) ∨ (rows ≠ [] ∧ H[L]? = some (.arr T sz rows))) := by
 obtain ⟨L, h1, h2, h3⟩ := h
 by_cases he : rows = []
 · exact ⟨n, by rw [h1, pval, pval, if_pos he, if_pos he], hb, .inl ⟨he, Nat.le_refl _⟩⟩
 exact ⟨L, h1, h2, .inr ⟨he, h3.resolve_left he⟩⟩
theorem PV.keep {b : Nat} {H H' : Hp} {T : TypeId} {sz : Nat} {v : AV} {rows : List (List AV)} (h : PV b H T sz v rows) (hk : ∀ L, b ≤ L → H[L]? = some (.arr T sz rows) → H'[L]? = some (.arr T sz rows)) : PV b H' T sz v rows := by
 obtain ⟨L, h1, h2, h3⟩ := h
 exact ⟨L, h1, h2, h3.imp id (hk L h2)⟩
theorem PV.mk' {b : Nat} {H : Hp} {T : TypeId} {sz n : Nat} {rows : List (List AV)} {r : List AV} (h1 : b ≤ n) (h2 : H[n]? = some (.arr T sz (rows ++ [r]))) : PV b H T sz (.row false n 0 (rows.length + 1)) (rows ++ [r]) :=
 ⟨n, by simp [pval], h1, .inr h2⟩
theorem kill_keep {H : Hp} {L k n : Nat} {T : TypeId} {sz : Nat} {rows : List (List AV)} {o2 : VO} (h1 : (rows = [] ∧ n ≤ L) ∨ (rows ≠ [] ∧ H[L]? = some (.arr T sz rows))) (hn : H.length ≤ n) (h2 : H[k]? = some o2) (hne : ∀ r, o2 ≠ .arr T sz r) : (H.set L .dead)[k]? = some o2 := by
 have hk := (List.getElem?_eq_some_iff.1 h2).1
 refine get_set h2 fun e => ?_
 rcases h1 with ⟨_, h1⟩ | ⟨_, h1⟩
 · omega
 rw [e, h2] at h1; cases h1; exact hne _ rfl
theorem setC_one {r : List AV} {k : Nat} {x : AV} (h : k < r.length) : setC r k [x] = r.set k x := by
 apply List.ext_getElem?
 intro j
 rw [setC_get (by simp; omega)]
 by_cases hj : j = k
 · subst hj
   rw [if_pos ⟨Nat.le_refl _, by simp⟩, List.getElem?_set_self h]
   simp
 rw [if_neg (by simp; omega), List.getElem?_set_ne (Ne.symm hj)]
theorem ret_tup3 {H : Hp} {x y z x' y' z' : AV} (h1 : ret1 H x = some x') (h2 : ret1 H y = some y') (h3 : ret1 H z = some z') : retv H (.tup [x, y, z]) = some (.tup [x', y', z']) := by
 simp only [retv, mapL, h1, h2, h3, Option.map_some]
end Lay
end Go.Vi
namespace Go.Vi
open Go Go.Vi Go.Proofs
attribute [local irreducible] vops vopsD vc
namespace Lay
def m0 : List AV := List.replicate 15360 (.bool false)
theorem zr105 : zrOf Tryz.prog 105 = some (.agg m0) := by kernel_rfl
theorem m0_len : m0.length = 15360 := List.length_replicate ..
theorem m0_mk {g : Nat → Nat → Bool} (hg : ∀ p c, g p c = false) : Mk m0 g := fun p c hp hc => by
 rw [m0, List.getElem?_replicate, if_pos (by omega), hg]
attribute [local irreducible] m0
theorem el105 : elemAt Tryz.prog 105 = some (some 120, 104, 128) := by kernel_rfl
theorem el104 : elemAt Tryz.prog 104 = some (some 128, 4, 1) := by kernel_rfl
theorem ag4 : aggOf Tryz.prog 4 = some false := by kernel_rfl
theorem zc108 : zcOf Tryz.prog 108 = some [.int .i64 0, .int .i64 0, .nils] := by kernel_rfl
theorem by108 : byOf Tryz.prog 108 = some 40 := by kernel_rfl
structure GI (q : Nat) (Hx : Hp) (L : Nat) (locs : List Nat) (sh : List Sheet) (M : List AV) (g : Nat → Nat → Bool) : Prop where
 img : BImg Hx L locs sh
 m : Hx[0]? = some (.arr 105 15360 [M])
 o : Hx[q]? = some (.arr 42 2 [[.int .i64 0, .row false L 0 120]])
 n : sh.length = 120
 mar : Mk M g
 q0 : q ≠ 0
 nL : L ≠ 0 ∧ L ≠ q
 nl : 0 ∉ locs ∧ q ∉ locs
section
variable {q L : Nat} {Hx : Hp} {locs : List Nat} {sh : List Sheet} {M : List AV} {g g' : Nat → Nat → Bool}
theorem GI.app (h : GI q Hx L locs sh M g) (b : Hp) : GI q (Hx ++ b) L locs sh M g := ⟨h.img.app, get_app h.m, get_app h.o, h.n, h.mar, h.q0, h.nL, h.nl⟩
theorem GI.congr (h : GI q Hx L locs sh M g) (e : ∀ p c, g p c = g' p c) : GI q Hx L locs sh M g' := ⟨h.img, h.m, h.o, h.n, h.mar.congr e, h.q0, h.nL, h.nl⟩
theorem GI.byte (h : GI q Hx L locs sh M g) {i l : Nat} {s : Sheet} {b : List (List AV)} (hl : locs[i]? = some l) (hs : sh[i]? = some s) (hb : b.length = s.1.length) : GI q (Hx.set l (.arr 5 1 b)) L locs (sh.set i (b, s.2)) M g := by
 have hm := List.mem_of_getElem? hl
 exact ⟨h.img.byte hl hs hb, get_set h.m (fun e => h.nl.1 (e ▸ hm)), get_set h.o (fun e => h.nl.2 (e ▸ hm)), by simp [h.n], h.mar, h.q0, h.nL, h.nl⟩
theorem GI.stamp (h : GI q Hx L locs sh M g) {i l : Nat} {s : Sheet} {k : Int} {rows : List (List AV)} (hr : Hx[L]? = some (.arr 95 2 rows)) (hl : locs[i]? = some l) (hs : sh[i]? = some s) : GI q (Hx.set L (.arr 95 2 (rows.set i [.row true l 0 s.1.length, .int .i64 k]))) L locs (sh.set i (s.1, k)) M g :=
 ⟨h.img.stamp hr hl hs, get_set h.m h.nL.1, get_set h.o h.nL.2, by simp [h.n], h.mar, h.q0, h.nL, h.nl⟩
theorem GI.mark (h : GI q Hx L locs sh M g) {p0 c0 : Nat} (hp : p0 < 120) (hc : c0 < 128) (e : ∀ p c, g' p c = (g p c || (decide (p0 = p) && decide (c = c0)))) : GI q (Hx.set 0 (.arr 105 15360 [setC M (p0 * 128 + c0) [.bool true]])) L locs sh (setC M (p0 * 128 + c0) [.bool true]) g' :=
 ⟨h.img.other h.nL.1.symm h.nl.1, get_self h.m, get_set h.o h.q0.symm, h.n, by rw [setC_one (List.getElem?_eq_some_iff.1 (h.mar p0 c0 hp hc)).1]; exact h.mar.next hp hc e, h.q0, h.nL, h.nl⟩
theorem GI.at (h : GI q Hx L locs sh M g) {i : Nat} (hi : i < 120) : ∃ l s rows, locs[i]? = some l ∧ sh[i]? = some s ∧ Hx[L]? = some (.arr 95 2 rows) ∧ rows[i]? = some [.row true l 0 s.1.length, .int .i64 s.2] ∧ Hx[l]? = some (.arr 5 1 s.1) := by
 have hn := h.n
 have hlen := h.img.len
 obtain ⟨rows, e1, e2, e3⟩ := h.img.row
 have hl : locs[i]? = some locs[i] := List.getElem?_eq_getElem (by omega)
 have hs : sh[i]? = some sh[i] := List.getElem?_eq_getElem (by omega)
 exact ⟨_, _, rows, hl, hs, e1, e3 i _ _ hl hs, h.img.byt i _ _ hl hs⟩
end
structure OI2 (H7 : Hp) (g : Nat → Nat → Bool) (sh : List Sheet) (j : Nat) (Hy : Hp) (v : AV) (rows : List (List AV)) (u : AV) : Prop where
 le : j ≤ 120
 low : ∀ (k : Nat) (o : VO), H7[k]? = some o → Hy[k]? = some o
 p : PV H7.length Hy 108 3 v rows
 r : PRows Hy rows (gatP g sh j)
 s : PV H7.length Hy 3 1 u (stmP sh j)
structure AI (H7 : Hp) (q : Nat) (w : VO) (g : Nat → Bool) (b : List (List AV)) (pg : Nat) (tgt : List (List AV)) (u : AV) (st : List (List AV)) (i : Nat) (Hz : Hp) (v : AV) (rows : List (List AV)) : Prop where
 low : ∀ (k : Nat) (o : VO), H7[k]? = some o → Hz[k]? = some o
 w' : Hz[q]? = some w
 p : PV H7.length Hz 108 3 v rows
 s : PV H7.length Hz 3 1 u st
 r : ∃ ps, PRows Hz rows ps ∧ ps ++ pcs g b pg i = tgt
theorem AI.skip {H7 Hz : Hp} {q pg i : Nat} {w : VO} {g : Nat → Bool} {b tgt st rows : List (List AV)} {u v : AV} (h : AI H7 q w g b pg tgt u st i Hz v rows) (hi : i < 128) (he : runEnd g i = i) : AI H7 q w g b pg tgt u st (i + 1) Hz v rows := by
 obtain ⟨ps, h1, h2⟩ := h.r
 exact ⟨h.low, h.w', h.p, h.s, ps, h1, by rw [← h2, pcs_next hi he]⟩
theorem AI.next {H7 Hz : Hp} {q pg i e L : Nat} {x : List AV} {g : Nat → Bool} {b tgt st rows : List (List AV)} {u v : AV} {o : VO} (h : AI H7 q (.arr 95 2 [x]) g b pg tgt u st i Hz v rows) (hi : i < 128) (he : runEnd g i = e) (hie : i < e) (hle : e ≤ b.length) (hb : Bs b) (hL : H7.length ≤ L) (hacc : (rows = [] ∧ Hz.length + 2 ≤ L) ∨ (rows ≠ [] ∧ Hz[L]? = some (.arr 108 3 rows))) :
 AI H7 q (.arr 95 2 [x]) g b pg tgt u st (e + 1) ((Hz ++ [VO.arr 5 1 ((b.drop i).take (e - i))] ++ [o]).set L .dead ++ [VO.arr 108 3 (rows ++ [[.int .i64 pg, .int .i64 i, .row false Hz.length 0 ((b.drop i).take (e - i)).length]])]) (.row false (Hz.length + 2) 0 (rows.length + 1)) (rows ++ [[.int .i64 pg, .int .i64 i, .row false Hz.length 0 ((b.drop i).take (e - i)).length]]) := by
 obtain ⟨ps, h1, h2⟩ := h.r
 have hb2 : Bs ((b.drop i).take (e - i)) := fun q hq => hb q (List.mem_of_mem_drop (List.mem_of_mem_take hq))
 have hacc2 : (rows = [] ∧ Hz.length + 2 ≤ L) ∨ (rows ≠ [] ∧ (Hz ++ [VO.arr 5 1 ((b.drop i).take (e - i))] ++ [o])[L]? = some (.arr 108 3 rows)) := hacc.imp id fun h => ⟨h.1, get_app (get_app h.2)⟩
 have kp : ∀ (k : Nat) (o2 : VO), (Hz ++ [VO.arr 5 1 ((b.drop i).take (e - i))] ++ [o])[k]? = some o2 → (∀ r, o2 ≠ .arr 108 3 r) → ((Hz ++ [VO.arr 5 1 ((b.drop i).take (e - i))] ++ [o]).set L .dead ++ [VO.arr 108 3 (rows ++ [[.int .i64 pg, .int .i64 i, .row false Hz.length 0 ((b.drop i).take (e - i)).length]])])[k]? = some o2 := fun k o2 hk hn => get_app (kill_keep hacc2 (by simp) hk hn)
 have hn : ∀ (T : TypeId) (sz : Nat) (z r : List (List AV)), T ≠ 108 → VO.arr T sz z ≠ .arr 108 3 r := fun T sz z r hT e => by cases e; exact hT rfl
 have hbyt : ((Hz ++ [VO.arr 5 1 ((b.drop i).take (e - i))] ++ [o]))[Hz.length]? = some (.arr 5 1 ((b.drop i).take (e - i))) := get_app get_last
 refine ⟨fun k o2 hk => ?_, kp _ _ (get_app (get_app h.w')) (fun r => hn _ _ _ r (by decide)), ?_, h.s.keep fun L2 _ h3 => kp _ _ (get_app (get_app h3)) (fun r => hn _ _ _ r (by decide)), ps ++ [[.int .i64 pg, .int .i64 i, .list .loose ((b.drop i).take (e - i))]], (h1.keep fun l bs hl => kp l _ (get_app (get_app hl)) (fun r => hn _ _ _ r (by decide))).snoc (kp _ _ hbyt (fun r => hn _ _ _ r (by decide))) rfl hb2, ?_⟩
 · have hk2 := (List.getElem?_eq_some_iff.1 hk).1
   exact get_app (get_set (get_app (get_app (h.low k o2 hk))) (by omega))
 · have hz : Hz.length + 2 = ((Hz ++ [VO.arr 5 1 ((b.drop i).take (e - i))] ++ [o]).set L .dead).length := by simp
   have h7 : H7.length ≤ Hz.length := by
    by_cases h0 : H7.length = 0
    · omega
    have := (List.getElem?_eq_some_iff.1 (h.low (H7.length - 1) _ (List.getElem?_eq_getElem (by omega)))).1
    omega
   refine PV.mk' (by omega) ?_
   rw [hz]
   exact get_last
 rw [List.append_assoc, ← h2, pcs_run hi he hie]
 rfl
theorem OI2.stamp {H7 Hz : Hp} {q pg i L : Nat} {w : VO} {g : Nat → Nat → Bool} {sh : List Sheet} {s : Sheet} {j : Nat} {rows : List (List AV)} {v : AV} {b : List (List AV)} {u : AV} (h : AI H7 q w (g j) b pg (gatP g sh (j + 1)) u (stmP sh j) i Hz v rows) (hi : ¬ i < 128) (hj : j < 120) (hs : sh[j]? = some s) (h0 : 0 < s.2) (hL : H7.length ≤ L) (hacc : (stmP sh j = [] ∧ Hz.length ≤ L) ∨ (stmP sh j ≠ [] ∧ Hz[L]? = some (.arr 3 1 (stmP sh j)))) :
 OI2 H7 g sh (j + 1) (Hz.set L .dead ++ [VO.arr 3 1 (stmP sh j ++ [[.int .i64 s.2]])]) v rows (.row false Hz.length 0 ((stmP sh j).length + 1)) := by
 obtain ⟨ps, h1, h2⟩ := h.r
 rw [pcs_stop hi, List.append_nil] at h2
 subst h2
 have hn : ∀ (T : TypeId) (sz : Nat) (z r : List (List AV)), T ≠ 3 → VO.arr T sz z ≠ .arr 3 1 r := fun T sz z r hT e => by cases e; exact hT rfl
 have kp : ∀ (k : Nat) (o2 : VO), Hz[k]? = some o2 → (∀ r, o2 ≠ .arr 3 1 r) → (Hz.set L .dead ++ [VO.arr 3 1 (stmP sh j ++ [[.int .i64 s.2]])])[k]? = some o2 := fun k o2 hk hn => get_app (kill_keep hacc (Nat.le_refl _) hk hn)
 refine ⟨hj, fun k o2 hk => ?_, h.p.keep fun L2 _ h3 => kp _ _ h3 (fun r => hn _ _ _ r (by decide)), h1.keep fun l bs hl => kp l _ hl (fun r => hn _ _ _ r (by decide)), ?_⟩
 · have hk2 := (List.getElem?_eq_some_iff.1 hk).1
   exact get_app (get_set (h.low k o2 hk) (by omega))
 have hz : Hz.length = (Hz.set L .dead).length := by simp
 have h7 : H7.length ≤ Hz.length := by
  by_cases h0 : H7.length = 0
  · omega
  have := (List.getElem?_eq_some_iff.1 (h.low (H7.length - 1) _ (List.getElem?_eq_getElem (by omega)))).1
  omega
 rw [stmP_pos hs h0]
 refine PV.mk' h7 ?_
 rw [hz]
 exact get_last
theorem OI2.none {H7 Hz : Hp} {q pg i : Nat} {w : VO} {g : Nat → Nat → Bool} {sh : List Sheet} {s : Sheet} {j : Nat} {rows : List (List AV)} {v : AV} {b : List (List AV)} {u : AV} (h : AI H7 q w (g j) b pg (gatP g sh (j + 1)) u (stmP sh j) i Hz v rows) (hi : ¬ i < 128) (hj : j < 120) (hs : sh[j]? = some s) (h0 : ¬ 0 < s.2) : OI2 H7 g sh (j + 1) Hz v rows u := by
 obtain ⟨ps, h1, h2⟩ := h.r
 rw [pcs_stop hi, List.append_nil] at h2
 subst h2
 exact ⟨hj, h.low, h.p, h1, by rw [stmP_no hs h0]; exact h.s⟩
theorem sub_rows {H : Hp} {l i e T sz : Nat} {t : Bool} {b : List (List AV)} (h : H[l]? = some (.arr T sz b)) (hi : i ≤ e) (he : e ≤ b.length) : rowsOf H (.row t l i (e - i)) = some ((b.drop i).take (e - i)) := by
 simp only [rowsOf, h]
 rw [if_pos (by omega)]
set_option maxHeartbeats 8000000 in
theorem bCloneR (G : Glob) (H : Hp) (b : Bool) (l i m : Nat) (bs : List (List AV)) (hsrc : rowsOf H (.row b l i m) = some bs) (hne : bs ≠ []) (hlen : bs.length ≤ 1000) (hb : Bs bs) : XS Tryz.prog G 64 [.row b l i m] H (fun r H' => r = .row false H.length 0 bs.length ∧ H' = H ++ [VO.arr 5 1 bs]) := by
 refine xs_body (fun _ => .iso) Tryz.func64 rfl ?_
 refine vc_norm (env' := [_, _, _, _, _, _, _, _]) (H' := _) rfl rfl ?_
 refine vs (wr ?_)
 refine wN rfl rfl rfl (v8 rfl ?_)
 refine we rfl (vs (vs (wr ?_)))
 iterate 2 refine wN rfl rfl rfl (v8 rfl ?_)
 refine we rfl ?_
 refine vc_cond rfl (fun hc4 => ?_) (fun hc4 => ?_)
 ·
  cases hc4
 refine vc_skip (n_then (vs (wr ?_)))
 iterate 2 refine wN rfl rfl rfl (v8 rfl ?_)
 refine w_opH (v := .row false H.length 0 bs.length) (env' := _) (H2 := H ++ [VO.arr 5 1 bs]) rfl (g_clone (H := H) (x := .row b l i m) (rows := bs) (e := 5) el68 Tryz.underlying68 rfl zc5 by5 hsrc rfl (by decide) (by decide) (bytes_len hb) rfl hne (bytes_frz hb) (by omega)) rfl (rfl) (fun _ h => h) (v8 rfl ?_)
 refine wN rfl rfl rfl (v8 rfl ?_)
 refine we rfl (vc_ret (r_fn rfl ?_))
 exact ⟨rfl, rfl⟩
set_option maxHeartbeats 8000000 in
theorem bGather (G : Glob) (x : AV) (l : List Rc) (hx : Recs x l) (hl : l.length ≤ 1000000) (a : Int) : Vi.Fn Tryz.prog G 27 [x, .int .i64 a] (gatherR l a) := by
 have hL := hx.isL
 have hxl : (lrows x).length = l.length := by rw [hx.rows]; simp
 refine fn_body (fun o => match o.op with | .call ⟨.value (.func f), _, _⟩ => if f = 59 ∨ f = 64 then .shr else .iso | .call ⟨.builtin .append, _, _⟩ => .shr | .buildSlice t _ _ => if t = 52 then .shr else .iso | _ => .iso) Tryz.func27 rfl ?_
 refine vc_norm (env' := (_::_::_::_::_::_::_::_::_::_::_::_::_::_::_::_::_::_::_::_::_::_::_::_::_::_::_::_::_::_::_::_::_::_::_::_::_::_::_::_::_::_::_::_::_::_::_::_::_::_::_::_::_::_::_::_::_::_::_::_::_::_::_::_::_::_::_::_::_::_::_::_::_::_::_::_::_::_::_::_::_::_::_::_::_::_::_::_::_::_::_::_::_::_::_::_::_::_::_::_::_::_::_::_::_::_::_::_::_::_::_::_::_::_::_::_::_::_::_::_::_::_::_::_::_::_::_::_::_::_::_::_::[])) (H' := []) rfl rfl ?_
 refine vs (wr ?_)
 iterate 3 refine wN rfl rfl rfl (v132 rfl ?_)
 refine we rfl (vs (vc_block (vs (wr ?_))))
 refine wN rfl rfl rfl (v132 rfl ?_)
 refine w_callI (env' := _) rfl rfl rfl (by kernel_rfl) rfl (by repeat' first | exact IsL.lend ‹_› | exact IsL.lend0 ‹_› | refine mapL_cons ?_ ?_ | refine lend_agg ?_ | rfl) (sSound G x l hx hl) rfl (v132 rfl ?_)
 iterate 2 refine wN rfl rfl rfl (v132 rfl ?_)
 refine we rfl ?_
 refine vc_cond rfl (fun hc18 => ?_) (fun hc18 => ?_)
 ·
  have hs : soundR l = false := by simpa using hc18
  refine vs (wr ?_)
  iterate 3 refine wN rfl rfl rfl (v132 rfl ?_)
  refine we rfl (vc_ret (r_block (r_then (r_fn rfl ?_))))
  rw [gatherR, if_neg (by rw [hs]; decide)]
  rfl
 have hs : soundR l = true := by simpa using hc18
 refine vs (wr ?_)
 iterate 3 refine wN rfl rfl rfl (v132 rfl ?_)
 refine w_split 25 rfl (fun hg25 => ?_) (fun hg25 => ?_)
 ·
  have hneg : a < 0 := of_decide_eq_true hg25
  refine v132 rfl ?_
  iterate 4 refine wS (wanted_f 25 (by kernel_rfl) rfl) (v132 rfl ?_)
  iterate 2 refine wN rfl rfl rfl (v132 rfl ?_)
  refine we rfl ?_
  refine vc_true rfl ?_
  refine vs (wr ?_)
  iterate 3 refine wN rfl rfl rfl (v132 rfl ?_)
  refine we rfl (vc_ret (r_block (r_then (r_fn rfl ?_))))
  rw [gatherR, if_pos hs, if_pos (.inl hneg)]
  rfl
 have hpos : 0 ≤ a := by have := of_decide_eq_false hg25; omega
 refine v132 rfl ?_
 iterate 2 refine wN (wanted_t 25 (by kernel_rfl) rfl) rfl rfl (v132 rfl ?_)
 first | refine wN (wanted_t 25 (by kernel_rfl) rfl) rfl rfl (v132 rfl ?_) | refine x_len (wanted_t 25 (by kernel_rfl) rfl) rfl ‹_› Tryz.underlying43 rfl (v132 rfl ?_)
 refine wN (wanted_t 25 (by kernel_rfl) rfl) rfl rfl (v132 rfl ?_)
 iterate 2 refine wN rfl rfl rfl (v132 rfl ?_)
 refine we rfl ?_
 refine vc_cond rfl (fun hc22 => ?_) (fun hc22 => ?_)
 ·
  have hgt : a > l.length := by have := of_decide_eq_true hc22; rw [hxl] at this; omega
  refine vs (wr ?_)
  iterate 3 refine wN rfl rfl rfl (v132 rfl ?_)
  refine we rfl (vc_ret (r_block (r_then (r_fn rfl ?_))))
  rw [gatherR, if_pos hs, if_pos (.inr hgt)]
  rfl
 refine vc_skip (n_block (n_then (vs (wr ?_))))
 refine w_opH (v := .ptr 0 0 0) (env' := _) (H2 := [VO.arr 105 m0.length [m0]]) rfl (g_alloc zr105 rfl rfl) rfl (rfl) (fun _ h => h) (v132 rfl ?_)
 rw [m0_len]
 refine v132 rfl ?_
 refine we rfl (vs (wr ?_))
 refine w_callS rfl rfl rfl (by kernel_rfl) rfl (bBlank G _) ?_
 rintro _ H6 ⟨L, locs, rfl, hI, hLl, hlocs, hpre⟩
 have h60 := hpre 0 _ rfl
 refine v132 rfl ?_
 refine w_opH (v := .ptr H6.length 0 0) (env' := _) (H2 := (H6 ++ [VO.arr 42 2 [[.int .i64 0, .nils]]])) rfl (g_alloc z42 rfl rfl) rfl (rfl) (fun _ h => h) (v132 rfl ?_)
 refine w_op0N (H2 := (H6 ++ [VO.arr 42 2 [[.int .i64 0, .row false L 0 120]]])) rfl (g_store get_last rfl rfl sz42 ⟨rfl, by simp, by decide⟩) (set_last) (fun _ h => h) ?_
 refine we rfl (vs (vs ?_))
 have hle : a ≤ l.length := by have := of_decide_eq_false hc22; rw [hxl] at this; omega
 have hR := sound_in hx hs
 have hlcl : ∀ z ∈ locs, z < H6.length := fun z hz => by
  obtain ⟨j, hj⟩ := List.mem_iff_getElem?.1 hz
  have hjs : j < zeroSh.length := by have := (List.getElem?_eq_some_iff.1 hj).1; have := hI.len; omega
  exact lt_of (hI.byt j _ _ hj (List.getElem?_eq_getElem hjs))
 have hLH : L < H6.length := by obtain ⟨r6, e6, _, _⟩ := hI.row; exact lt_of e6
 have hG0 : GI H6.length (H6 ++ [VO.arr 42 2 [[.int .i64 0, .row false L 0 120]]]) L locs (fwd l zeroSh a.toNat 0) m0 (mk l a.toNat 0) := ⟨hI.app, get_app h60, get_last, List.length_replicate .., m0_mk fun _ _ => rfl, by have := lt_of h60; omega, ⟨by simp at hLl; omega, by omega⟩, ⟨fun h => by have := hlocs _ h; simp at this, fun h => by have := hlcl _ h; omega⟩⟩
 refine wr ?_
 iterate 2 refine wN rfl rfl rfl (v132 rfl ?_)
 refine we rfl (vc_block ?_)
 refine vc_loopX (α := { z : Nat × Hp × List AV // a.toNat ≤ z.1 ∧ z.1 ≤ l.length ∧ GI H6.length z.2.1 L locs (fwd l zeroSh a.toNat (z.1 - a.toNat)) z.2.2 (mk l a.toNat (z.1 - a.toNat)) ∧ ShOk (fwd l zeroSh a.toNat (z.1 - a.toNat)) }) (fun z => (rnone 9 ++ ([some (.int .i64 (z.1.1 : Nat)), some .undef, some .undef] ++ (rnone 21 ++ (rundef 48 ++ (rnone 51)))))) (fun z => z.1.2.1) (fun z => l.length - z.1.1) ⟨(a.toNat, _, m0), Nat.le_refl _, by show a.toNat ≤ l.length; omega, by show GI _ _ _ _ (fwd l zeroSh a.toNat (a.toNat - a.toNat)) _ (mk l a.toNat (a.toNat - a.toNat)); rw [Nat.sub_self]; exact hG0, by show ShOk (fwd l zeroSh a.toNat (a.toNat - a.toNat)); rw [Nat.sub_self]; exact zeroSh_ok⟩ (by repeat' first | exact trivial | refine ⟨.inr rfl, ?_⟩ | refine ⟨.inl rfl, ?_⟩ | refine ⟨.inl (congrArg (AV.int .i64) (show ((a.toNat : Nat) : Int) = a by omega)), ?_⟩ | fail) rfl ?_
 rintro ⟨⟨i, Hx, M⟩, hil, hiu, hF, hSx⟩ Y0 hY0
 refine vc_norm (env' := (_::_::_::_::_::_::_::_::_::(.int .i64 (i : Int))::_::_::_::_::_::_::_::_::_::_::_::_::_::_::_::_::_::_::_::_::_::_::_::_::_::_::_::_::_::_::_::_::_::_::_::_::_::_::_::_::_::_::_::_::_::_::_::_::_::_::_::_::_::_::_::_::_::_::_::_::_::_::_::_::_::_::_::_::_::_::_::_::_::_::_::_::_::_::_::_::_::_::_::_::_::_::_::_::_::_::_::_::_::_::_::_::_::_::_::_::_::_::_::_::_::_::_::_::_::_::_::_::_::_::_::_::_::_::_::_::_::_::[])) (H' := Hx) rfl rfl ?_
 replace hil : a.toNat ≤ i := hil
 replace hiu : i ≤ l.length := hiu
 replace hF : GI H6.length Hx L locs (fwd l zeroSh a.toNat (i - a.toNat)) M (mk l a.toNat (i - a.toNat)) := hF
 replace hSx : ShOk (fwd l zeroSh a.toNat (i - a.toNat)) := hSx
 refine vs (vs (wr ?_))
 iterate 2 refine wN rfl rfl rfl (v132 rfl ?_)
 first | refine wN rfl rfl rfl (v132 rfl ?_) | refine x_len rfl rfl ‹_› Tryz.underlying43 rfl (v132 rfl ?_)
 refine wN rfl rfl rfl (v132 rfl ?_)
 refine we rfl ?_
 refine vc_cond rfl (fun hc36 => ?_) (fun hc36 => ?_)
 ·
  have hlt : i < l.length := by have := of_decide_eq_true hc36; omega
  obtain ⟨r, hr⟩ : ∃ r, l[i]? = some r := ⟨_, List.getElem?_eq_getElem hlt⟩
  have hri := hx.at hr
  have hrm := List.mem_of_getElem? hr
  have hOk := hx.ok r hrm
  have hLa := hOk.aft.1
  have hIn := (hR r hrm).2
  have hp0 := hIn.p0
  have hp1 := hIn.p1
  have hg0 := hIn.g0
  have hg1 := hIn.g1
  have hna : r.na = (lrows r.aft).length := rfl
  have hri2 : l[a.toNat + (i - a.toNat)]? = some r := by rw [show a.toNat + (i - a.toNat) = i by omega]; exact hr
  have hi1 : i + 1 - a.toNat = (i - a.toNat) + 1 := by omega
  have hst : stepR l (fwd l zeroSh a.toNat (i - a.toNat)) i = layR (fwd l zeroSh a.toNat (i - a.toNat)) r i := by simp only [stepR, hr]
  have hsn : fwd l zeroSh a.toNat (i + 1 - a.toNat) = layR (fwd l zeroSh a.toNat (i - a.toNat)) r i := by
   rw [hi1, fwd_succ, show a.toNat + (i - a.toNat) = i by omega, hst]
  refine vc_skip (n_then (vs (vc_block (vs (wr ?_)))))
  iterate 2 refine wN rfl rfl rfl (v132 rfl ?_)
  first | refine wN (v := .iptr _ [_, _, _, _, _, _, _, _, _, _]) rfl rfl rfl (v132 rfl ?_) | (refine x_index rfl rfl ‹_› rfl el43 (by omega) ‹_› rfl (fun bo => ?_); refine v132 rfl ?_)
  refine wN (v := .agg r.row) rfl (rfl) rfl (v132 rfl ?_)
  refine w_opH (v := .ptr Hx.length 0 0) (env' := _) (H2 := (Hx ++ [VO.arr 93 10 [[.int .i64 0, .int .i64 0, .int .i64 0, .int .i64 0, .nils, .nils, .int .i64 0, .int .i64 0, .str ⟨#[]⟩, .nils]]])) rfl (g_alloc zr93b rfl rfl) rfl (rfl) (fun _ h => h) (v132 rfl ?_)
  refine w_op0N (H2 := (Hx ++ [VO.arr 93 10 [r.row]])) rfl (g_store get_last rfl rfl sz93 ⟨rfl, by simp [Rc.row], by decide⟩) (set_last) (fun _ h => h) ?_
  refine we rfl (vs (wr ?_))
  refine wN (v := .agg r.row) rfl (g_load get_last rfl rfl) rfl (v132 rfl ?_)
  refine w_callI (env' := _) rfl rfl rfl (by kernel_rfl) rfl (mapL_cons hOk.lend rfl) (sLays G r hOk) rfl (v132 rfl ?_)
  refine we rfl ?_
  refine vc_cond rfl (fun hc44 => ?_) (fun hc44 => ?_)
  ·
   refine vs ?_
   have hly : laysB r = true := hc44
   have hI2 := hF.app [VO.arr 93 10 [r.row]]
   obtain ⟨lp, s, prow, hlp, hsp, hpr, hprp, hby⟩ := hI2.at (i := r.page.toNat) (by omega)
   have h128 := (hSx s (List.mem_of_getElem? hsp)).1
   refine w_regionD (by kernel_rfl) ?_
   refine dN (v := .ptr H6.length 0 1) rfl rfl rfl (d132 rfl ?_)
   refine dN (v := .row false L 0 120) rfl (g_load hI2.o rfl rfl) rfl (d132 rfl ?_)
   refine dN (v := .ptr Hx.length 0 2) rfl rfl rfl (d132 rfl ?_)
   refine dN (v := .int .i64 r.page) rfl (g_load get_last rfl rfl) rfl (d132 rfl ?_)
   refine dN (v := .ptr L r.page.toNat 0) rfl (g_index0 el40 hpr (by omega) (by omega)) rfl (d132 rfl ?_)
   refine dN rfl rfl rfl (d132 rfl ?_)
   refine dN (v := .row true lp 0 s.1.length) rfl (g_load hpr hprp rfl) rfl (d132 rfl ?_)
   refine dN (v := .ptr Hx.length 0 3) rfl rfl rfl (d132 rfl ?_)
   refine dN (v := .int .i64 r.pos) rfl (g_load get_last rfl rfl) rfl (d132 rfl ?_)
   refine dN (v := .row true lp r.pos.toNat (s.1.length - r.pos.toNat)) rfl (g_slice0 Tryz.underlying68 sz5 hby (by omega) (by omega)) rfl (d132 rfl ?_)
   refine dN (v := .ptr Hx.length 0 5) rfl rfl rfl (d132 rfl ?_)
   refine dN (v := r.aft) rfl (g_load get_last rfl rfl) rfl (d132 rfl ?_)
   refine d_opH (v := .int .i64 ((lrows r.aft).length : Nat)) (env' := _) (H2 := ((Hx ++ [VO.arr 93 10 [r.row]]).set lp (VO.arr 5 1 (lay s.1 r.pos.toNat (lrows r.aft))))) rfl (g_copyL (b := true) (x := r.aft) (rows' := lrows r.aft) (i := r.pos.toNat) (m := s.1.length - r.pos.toNat) el68 hby hOk.aft.1.src (bytes_len hOk.aft.2.2) (by decide) hOk.aft.1.notStr (by omega) (by omega)) (.inl rfl) rfl (rfl) (fun _ h => h) (d132 rfl ?_)
   refine d_end rfl (vs ?_)
   have hI3 := hI2.byte (b := lay s.1 r.pos.toNat (lrows r.aft)) hlp hsp (lay_length (by omega))
   have hpr2 := get_set (o' := (VO.arr 5 1 (lay s.1 r.pos.toNat (lrows r.aft)))) hpr (hI2.img.ne lp (List.mem_of_getElem? hlp))
   have hlx : lp ≠ Hx.length := fun e => by rw [e] at hby; rw [get_last] at hby; cases hby
   have hLx : L ≠ Hx.length := fun e => by rw [e] at hpr; rw [get_last] at hpr; cases hpr
   have hrb3 : ((Hx ++ [VO.arr 93 10 [r.row]]).set lp (VO.arr 5 1 (lay s.1 r.pos.toNat (lrows r.aft))))[Hx.length]? = some (VO.arr 93 10 [r.row]) := get_set get_last hlx
   refine wr ?_
   refine wN (v := .ptr H6.length 0 1) rfl rfl rfl (v132 rfl ?_)
   refine wN (v := .row false L 0 120) rfl (g_load hI3.o rfl rfl) rfl (v132 rfl ?_)
   refine wN (v := .ptr Hx.length 0 2) rfl rfl rfl (v132 rfl ?_)
   refine wN (v := .int .i64 r.page) rfl (g_load hrb3 rfl rfl) rfl (v132 rfl ?_)
   refine wN rfl rfl rfl (v132 rfl ?_)
   refine wN (v := .int .i64 ((i : Int) + 1)) rfl (int_eq (i64_small (by omega) (by omega))) rfl (v132 rfl ?_)
   refine wN (v := .ptr L r.page.toNat 0) rfl (g_index0 el40 hpr2 (by omega) (by omega)) rfl (v132 rfl ?_)
   refine wN rfl rfl rfl (v132 rfl ?_)
   refine w_op0N (H2 := (((Hx ++ [VO.arr 93 10 [r.row]]).set lp (VO.arr 5 1 (lay s.1 r.pos.toNat (lrows r.aft)))).set L (VO.arr 95 2 (prow.set r.page.toNat [.row true lp 0 s.1.length, .int .i64 ((i : Int) + 1)])))) rfl (g_store hpr2 hprp rfl sz3 ⟨rfl, by simp, by decide⟩) (rfl) (fun _ h => h) ?_
   refine we rfl (vs ?_)
   have hrb4 : (((Hx ++ [VO.arr 93 10 [r.row]]).set lp (VO.arr 5 1 (lay s.1 r.pos.toNat (lrows r.aft)))).set L (VO.arr 95 2 (prow.set r.page.toNat [.row true lp 0 s.1.length, .int .i64 ((i : Int) + 1)])))[Hx.length]? = some (VO.arr 93 10 [r.row]) := get_set hrb3 hLx
   have hI4 : GI H6.length (((Hx ++ [VO.arr 93 10 [r.row]]).set lp (VO.arr 5 1 (lay s.1 r.pos.toNat (lrows r.aft)))).set L (VO.arr 95 2 (prow.set r.page.toNat [.row true lp 0 s.1.length, .int .i64 ((i : Int) + 1)]))) L locs (fwd l zeroSh a.toNat (i + 1 - a.toNat)) M (mk l a.toNat (i - a.toNat)) := by
    rw [hsn, layR_set hly hsp]
    have h9 := hI3.stamp (s := (lay s.1 r.pos.toNat (lrows r.aft), s.2)) (k := (i : Int) + 1) hpr2 hlp (List.getElem?_set_self (List.getElem?_eq_some_iff.1 hsp).1)
    simp only [lay_length (show r.pos.toNat + (lrows r.aft).length ≤ s.1.length by omega)] at h9
    exact h9
   refine wr ?_
   refine wN (v := .ptr Hx.length 0 5) rfl rfl rfl (v132 rfl ?_)
   refine wN (v := r.aft) rfl (g_load hrb4 rfl rfl) rfl (v132 rfl ?_)
   first | refine wN rfl rfl rfl (v132 rfl ?_) | refine x_len rfl rfl ‹_› Tryz.underlying68 rfl (v132 rfl ?_)
   refine wN rfl rfl rfl (v132 rfl ?_)
   refine we rfl (vc_block ?_)
   refine vc_loopX (α := { z : Nat × Hp × List AV // z.1 ≤ (lrows r.aft).length ∧ GI H6.length z.2.1 L locs (fwd l zeroSh a.toNat (i + 1 - a.toNat)) z.2.2 (mkK l a.toNat (i - a.toNat) r z.1) ∧ z.2.1[Hx.length]? = some (VO.arr 93 10 [r.row]) }) (fun z => (rnone 11 ++ ([some .undef] ++ (rnone 57 ++ ([some (.int .i64 (z.1.1 : Nat))] ++ (rundef 11 ++ (rnone 51))))))) (fun z => z.1.2.1) (fun z => (lrows r.aft).length - z.1.1) ⟨(0, _, M), Nat.zero_le _, hI4.congr fun p c => mkK_zero.symm, hrb4⟩ (by repeat' first | exact trivial | refine ⟨.inr rfl, ?_⟩ | refine ⟨.inl rfl, ?_⟩ | fail) rfl ?_
   rintro ⟨⟨k, Hy, My⟩, hkl, hK, hb⟩ Y1 hY1
   refine vc_norm (env' := (_::_::_::_::_::_::_::_::_::_::_::_::_::_::_::_::_::_::_::_::_::_::_::_::_::_::_::_::_::_::_::_::_::_::_::_::_::_::_::_::_::_::_::_::_::_::_::_::_::_::_::_::_::_::_::_::_::_::_::_::_::_::_::_::_::_::_::_::_::(.int .i64 (k : Int))::_::_::_::_::_::_::_::_::_::_::_::_::_::_::_::_::_::_::_::_::_::_::_::_::_::_::_::_::_::_::_::_::_::_::_::_::_::_::_::_::_::_::_::_::_::_::_::_::_::_::_::_::_::_::_::_::_::_::_::_::_::_::[])) (H' := Hy) rfl rfl ?_
   replace hkl : k ≤ (lrows r.aft).length := hkl
   replace hK : GI H6.length Hy L locs (fwd l zeroSh a.toNat (i + 1 - a.toNat)) My (mkK l a.toNat (i - a.toNat) r k) := hK
   replace hb : Hy[Hx.length]? = some (VO.arr 93 10 [r.row]) := hb
   refine vs (wr ?_)
   refine wN rfl rfl rfl (v132 rfl ?_)
   refine we rfl (vs ?_)
   refine vc_cond rfl (fun hc70 => ?_) (fun hc70 => ?_)
   ·
    have hlk : k < (lrows r.aft).length := by have := of_decide_eq_true hc70; omega
    refine vc_skip (n_then (vs (vc_block (vs (wr ?_)))))
    iterate 2 refine wN rfl rfl rfl (v132 rfl ?_)
    refine we rfl ?_
    have hMl : (r.page.toNat * 128 + (r.pos.toNat + k)) + 1 ≤ My.length := (List.getElem?_eq_some_iff.1 (hK.mar r.page.toNat (r.pos.toNat + k) (by omega) (by omega))).1
    refine w_regionD (by kernel_rfl) ?_
    refine dN (v := .ptr Hx.length 0 2) rfl rfl rfl (d132 rfl ?_)
    refine dN (v := .int .i64 r.page) rfl (g_load hb rfl rfl) rfl (d132 rfl ?_)
    refine dN (v := .ptr Hx.length 0 3) rfl rfl rfl (d132 rfl ?_)
    refine dN (v := .int .i64 r.pos) rfl (g_load hb rfl rfl) rfl (d132 rfl ?_)
    refine dN rfl rfl rfl (d132 rfl ?_)
    refine dN (v := .int .i64 (r.pos + (k : Int))) rfl (int_eq (i64_small (by omega) (by omega))) rfl (d132 rfl ?_)
    refine dN (v := .ptr 0 0 (0 + r.page.toNat * 128)) rfl (g_indexA el105 hg0 hg1) rfl (d132 rfl ?_)
    refine dN (v := .ptr 0 0 (r.page.toNat * 128 + (r.pos.toNat + k))) rfl ((by have h9 := g_indexA (H := Hy) (l := 0) (i := 0) (k := 0 + r.page.toNat * 128) (kk := .i64) el104 (show 0 ≤ r.pos + (k : Int) by omega) (by omega); rw [show 0 + r.page.toNat * 128 + (r.pos + (k : Int)).toNat * 1 = r.page.toNat * 128 + (r.pos.toNat + k) by omega] at h9; exact h9)) rfl (d132 rfl ?_)
    refine d_op0 (H2 := (Hy.set 0 (VO.arr 105 15360 [setC My (r.page.toNat * 128 + (r.pos.toNat + k)) [.bool true]]))) rfl (g_store hK.m rfl rfl sz4 ⟨rfl, hMl, by decide⟩) (.inl rfl) (rfl) (fun _ h => h) ?_
    refine d_endB rfl (n_then (wr ?_))
    iterate 2 refine wN rfl rfl rfl (v132 rfl ?_)
    refine we rfl ?_
    refine hY1 ⟨(k + 1, _, _), hlk, hK.mark (by omega) (by omega) fun p c => mkK_next, get_set hb (by have := lt_of hF.m; omega)⟩ (by simp only; omega) _ _ ?_ rfl
    repeat' first | exact trivial | refine ⟨.inr rfl, ?_⟩ | refine ⟨.inl rfl, ?_⟩ | refine ⟨.inl ?_, ?_⟩ | fail
    all_goals first | exact (int_succ (by omega)).symm
   have hgk : k = (lrows r.aft).length := by have := of_decide_eq_false hc70; omega
   subst hgk
   refine vc_exit (x_then (x_then (x_same (n_block (n_then (wr ?_))))))
   iterate 3 refine wN rfl rfl rfl (v132 rfl ?_)
   refine we rfl ?_
   refine hY0 ⟨(i + 1, Hy, My), by show a.toNat ≤ i + 1; omega, hlt, by show GI _ _ _ _ _ _ (mk l a.toNat (i + 1 - a.toNat)); exact hK.congr fun p c => by rw [hi1]; exact mkK_full hri2 hly, by show ShOk (fwd l zeroSh a.toNat (i + 1 - a.toNat)); rw [hsn]; exact layR_ok hSx hOk hIn⟩ (by simp only; omega) _ _ ?_ rfl
   repeat' first | exact trivial | refine ⟨.inr rfl, ?_⟩ | refine ⟨.inl rfl, ?_⟩ | refine ⟨.inl ?_, ?_⟩ | fail
   all_goals first | exact (int_succ (by omega)).symm
  have hly : laysB r = false := hc44
  refine vc_skip (n_block (n_then (wr ?_)))
  iterate 3 refine wN rfl rfl rfl (v132 rfl ?_)
  refine we rfl ?_
  refine hY0 ⟨(i + 1, _, M), by show a.toNat ≤ i + 1; omega, hlt, by show GI _ _ _ _ (fwd l zeroSh a.toNat (i + 1 - a.toNat)) _ (mk l a.toNat (i + 1 - a.toNat)); rw [hsn, layR_no hly]; exact (hF.app [VO.arr 93 10 [r.row]]).congr fun p c => by rw [hi1]; exact (mk_no hri2 hly).symm, by show ShOk (fwd l zeroSh a.toNat (i + 1 - a.toNat)); rw [hsn]; exact layR_ok hSx hOk hIn⟩ (by simp only; omega) _ _ ?_ rfl
  repeat' first | exact trivial | refine ⟨.inr rfl, ?_⟩ | refine ⟨.inl rfl, ?_⟩ | refine ⟨.inl ?_, ?_⟩ | fail
  all_goals first | exact (int_succ (by omega)).symm
 have hge : l.length ≤ i := by have := of_decide_eq_false hc36; omega
 have hii : i = l.length := by omega
 subst hii
 have hG := hF
 generalize hH7 : Hx = H7 at *
 refine vc_exit (x_then (x_then (x_same (n_then (vs (wr ?_))))))
 refine wN rfl rfl rfl (v132 rfl ?_)
 refine we rfl (vs (wr ?_))
 refine wN rfl rfl rfl (v132 rfl ?_)
 refine we rfl (vs (vs (wr ?_)))
 refine wN (v := .ptr H6.length 0 1) rfl rfl rfl (v132 rfl ?_)
 refine wN (v := .row false L 0 120) rfl (g_load hG.o rfl rfl) rfl (v132 rfl ?_)
 first | refine wN rfl rfl rfl (v132 rfl ?_) | refine x_len rfl rfl ‹_› Tryz.underlying40 rfl (v132 rfl ?_)
 refine wN rfl rfl rfl (v132 rfl ?_)
 refine we rfl (vc_block ?_)
 refine vc_loopX (α := { z : Nat × Hp × AV × List (List AV) × AV // OI2 H7 (mk l a.toNat (l.length - a.toNat)) (fwd l zeroSh a.toNat (l.length - a.toNat)) z.1 z.2.1 z.2.2.1 z.2.2.2.1 z.2.2.2.2 }) (fun z => (rnone 12 ++ ([some (z.1.2.2.1), some (z.1.2.2.2.2)] ++ (rundef 4 ++ (rnone 66 ++ ([some (.int .i64 (z.1.1 : Nat))] ++ (rundef 45 ++ ([none, none])))))))) (fun z => z.1.2.1) (fun z => 120 - z.1.1) ⟨(0, H7, .nils, [], .nils), ⟨Nat.zero_le _, fun k o h => h, PV.nil, PRows.nil, PV.nil⟩⟩ (by repeat' first | exact trivial | refine ⟨.inr rfl, ?_⟩ | refine ⟨.inl rfl, ?_⟩ | fail) rfl ?_
 rintro ⟨⟨j, Hy, v, rows, u⟩, hO⟩ Y2 hY2
 refine vc_norm (env' := (_::_::_::_::_::_::_::_::_::_::_::_::v::u::_::_::_::_::_::_::_::_::_::_::_::_::_::_::_::_::_::_::_::_::_::_::_::_::_::_::_::_::_::_::_::_::_::_::_::_::_::_::_::_::_::_::_::_::_::_::_::_::_::_::_::_::_::_::_::_::_::_::_::_::_::_::_::_::_::_::_::_::_::_::(.int .i64 (j : Int))::_::_::_::_::_::_::_::_::_::_::_::_::_::_::_::_::_::_::_::_::_::_::_::_::_::_::_::_::_::_::_::_::_::_::_::_::_::_::_::_::_::_::_::_::_::_::_::[])) (H' := Hy) rfl rfl ?_
 replace hO : OI2 H7 (mk l a.toNat (l.length - a.toNat)) (fwd l zeroSh a.toNat (l.length - a.toNat)) j Hy v rows u := hO
 refine vs (wr ?_)
 refine wN rfl rfl rfl (v132 rfl ?_)
 refine we rfl (vs ?_)
 refine vc_cond rfl (fun hc85 => ?_) (fun hc85 => ?_)
 ·
  have hj : j < 120 := by have := of_decide_eq_true hc85; omega
  refine vc_skip (n_then (vs (vc_block (vs ?_))))
  obtain ⟨lp, s, prow, hlp, hsp, hpr, hprp, hby⟩ := hG.at (i := j) (by omega)
  have h128 := (hSx s (List.mem_of_getElem? hsp)).1
  have hSxs := (hSx s (List.mem_of_getElem? hsp)).2
  refine wr ?_
  refine wN rfl rfl rfl (v132 rfl ?_)
  refine wN (v := .ptr L j 0) rfl (g_index0 el40 (hO.low _ _ hpr) (by omega) (by omega)) rfl (v132 rfl ?_)
  refine wN (v := .agg [.row true lp 0 s.1.length, .int .i64 s.2]) rfl (g_load (hO.low _ _ hpr) hprp rfl) rfl (v132 rfl ?_)
  refine w_opH (v := .ptr Hy.length 0 0) (env' := _) (H2 := (Hy ++ [VO.arr 95 2 [[.nils, .int .i64 0]]])) rfl (g_alloc z95 rfl rfl) rfl (rfl) (fun _ h => h) (v132 rfl ?_)
  refine wN rfl rfl rfl (v132 rfl ?_)
  refine w_op0N (H2 := (Hy ++ [VO.arr 95 2 [[.row true lp 0 s.1.length, .int .i64 s.2]]])) rfl (g_store get_last rfl rfl sz95 ⟨rfl, by simp, by decide⟩) (set_last) (fun _ h => h) ?_
  refine we rfl (vs (vs (wr ?_)))
  refine wN rfl rfl rfl (v132 rfl ?_)
  refine we rfl (vc_block ?_)
  refine vc_loopX (α := { z : Nat × Hp × AV × List (List AV) // AI H7 Hy.length (VO.arr 95 2 [[.row true lp 0 s.1.length, .int .i64 s.2]]) ((mk l a.toNat (l.length - a.toNat)) j) s.1 j (gatP (mk l a.toNat (l.length - a.toNat)) (fwd l zeroSh a.toNat (l.length - a.toNat)) (j + 1)) u (stmP (fwd l zeroSh a.toNat (l.length - a.toNat)) j) z.1 z.2.1 z.2.2.1 z.2.2.2 }) (fun z => (rnone 12 ++ ([some (z.1.2.2.1), none, none, none, some (.int .i64 (z.1.1 : Nat)), some .undef] ++ (rnone 71 ++ (rundef 32 ++ (rnone 11)))))) (fun z => z.1.2.1) (fun z => 128 - z.1.1) ⟨(0, _, v, rows), ⟨fun k o h => get_app (hO.low k o h), get_last, hO.p.keep fun L2 _ h => get_app h, hO.s.keep fun L2 _ h => get_app h, _, hO.r.keep fun l2 bs h => get_app h, (gatP_next hsp).symm⟩⟩ (by repeat' first | exact trivial | refine ⟨.inr rfl, ?_⟩ | refine ⟨.inl rfl, ?_⟩ | fail) rfl ?_
  rintro ⟨⟨i, Hz, v, rows⟩, hA⟩ Y3 hY3
  refine vc_norm (env' := (_::_::_::_::_::_::_::_::_::_::_::_::v::_::_::_::(.int .i64 (i : Int))::_::_::_::_::_::_::_::_::_::_::_::_::_::_::_::_::_::_::_::_::_::_::_::_::_::_::_::_::_::_::_::_::_::_::_::_::_::_::_::_::_::_::_::_::_::_::_::_::_::_::_::_::_::_::_::_::_::_::_::_::_::_::_::_::_::_::_::_::_::_::_::_::_::_::_::_::_::_::_::_::_::_::_::_::_::_::_::_::_::_::_::_::_::_::_::_::_::_::_::_::_::_::_::_::_::_::_::_::_::_::_::_::_::_::_::[])) (H' := Hz) rfl rfl ?_
  replace hA : AI H7 Hy.length (VO.arr 95 2 [[.row true lp 0 s.1.length, .int .i64 s.2]]) ((mk l a.toNat (l.length - a.toNat)) j) s.1 j (gatP (mk l a.toNat (l.length - a.toNat)) (fwd l zeroSh a.toNat (l.length - a.toNat)) (j + 1)) u (stmP (fwd l zeroSh a.toNat (l.length - a.toNat)) j) i Hz v rows := hA
  refine vs (vs (wr ?_))
  iterate 2 refine wN rfl rfl rfl (v132 rfl ?_)
  refine we rfl ?_
  refine vc_cond rfl (fun hc90 => ?_) (fun hc90 => ?_)
  ·
   have hi128 : i < 128 := by have := of_decide_eq_true hc90; omega
   refine vc_skip (n_then (vs (vc_block (vs (wr ?_)))))
   iterate 2 refine wN rfl rfl rfl (v132 rfl ?_)
   refine we rfl (vs (vc_block ?_))
   refine vc_loopX (α := { z : Nat // i ≤ z ∧ z ≤ 128 ∧ runEnd (mk l a.toNat (l.length - a.toNat) j) z = runEnd (mk l a.toNat (l.length - a.toNat) j) i }) (fun z => (rnone 17 ++ ([some (.int .i64 (z.1 : Nat))] ++ (rnone 76 ++ (rundef 11 ++ (rnone 27)))))) (fun z => Hz) (fun z => 128 - z.1) ⟨i, Nat.le_refl _, by omega, rfl⟩ (by repeat' first | exact trivial | refine ⟨.inr rfl, ?_⟩ | refine ⟨.inl rfl, ?_⟩ | fail) rfl ?_
   rintro ⟨e, hie, heu, hre⟩ Y4 hY4
   refine vc_norm (env' := (_::_::_::_::_::_::_::_::_::_::_::_::_::_::_::_::_::(.int .i64 (e : Int))::_::_::_::_::_::_::_::_::_::_::_::_::_::_::_::_::_::_::_::_::_::_::_::_::_::_::_::_::_::_::_::_::_::_::_::_::_::_::_::_::_::_::_::_::_::_::_::_::_::_::_::_::_::_::_::_::_::_::_::_::_::_::_::_::_::_::_::_::_::_::_::_::_::_::_::_::_::_::_::_::_::_::_::_::_::_::_::_::_::_::_::_::_::_::_::_::_::_::_::_::_::_::_::_::_::_::_::_::_::_::_::_::_::_::[])) (H' := Hz) rfl rfl ?_
   refine vs (vs (wr ?_))
   iterate 3 refine wN rfl rfl rfl (v132 rfl ?_)
   refine w_split 96 rfl (fun hg96 => ?_) (fun hg96 => ?_)
   ·
    have hlt : e < 128 := by have := of_decide_eq_true hg96; omega
    refine v132 rfl ?_
    iterate 2 refine wN (wanted_t 96 (by kernel_rfl) rfl) rfl rfl (v132 rfl ?_)
    refine wN (v := .ptr 0 0 (0 + j * 128)) (wanted_t 96 (by kernel_rfl) rfl) (g_indexA el105 (by omega) (by omega)) rfl (v132 rfl ?_)
    refine wN (v := .ptr 0 0 (j * 128 + e)) (wanted_t 96 (by kernel_rfl) rfl) ((by have h9 := g_indexA (H := Hz) (l := 0) (i := 0) (k := 0 + j * 128) (kk := .i64) el104 (show 0 ≤ (e : Int) by omega) (by omega); rw [show 0 + j * 128 + (e : Int).toNat * 1 = j * 128 + e by omega] at h9; exact h9)) rfl (v132 rfl ?_)
    refine wN (v := .bool (mk l a.toNat (l.length - a.toNat) j e)) (wanted_t 96 (by kernel_rfl) rfl) (g_loadW (hA.low _ _ hG.m) (hG.mar j e (by omega) hlt) ag4) rfl (v132 rfl ?_)
    refine wN rfl rfl rfl (v132 rfl ?_)
    refine we rfl ?_
    refine vc_cond rfl (fun hc102 => ?_) (fun hc102 => ?_)
    ·
     have hmk : mk l a.toNat (l.length - a.toNat) j e = true := hc102
     refine vc_skip (n_then (vc_block (wr ?_)))
     iterate 3 refine wN rfl rfl rfl (v132 rfl ?_)
     refine w_endB rfl (n_then ?_)
     refine hY4 ⟨e + 1, by omega, by omega, by rw [runEnd_go hlt hmk]; exact hre⟩ (by simp only; omega) _ _ ?_ rfl
     repeat' first | exact trivial | refine ⟨.inr rfl, ?_⟩ | refine ⟨.inl rfl, ?_⟩ | refine ⟨.inl ?_, ?_⟩ | fail
     all_goals first | exact (int_succ (by omega)).symm
    have hend : runEnd (mk l a.toNat (l.length - a.toNat) j) i = e := by rw [← hre]; exact runEnd_stop (by rw [show mk l a.toNat (l.length - a.toNat) j e = false by simpa using hc102]; simp)
    refine vc_exit (x_then (x_then (x_same (n_then (vs (wr ?_))))))
    iterate 3 refine wN rfl rfl rfl (v132 rfl ?_)
    refine we rfl ?_
    refine vc_cond rfl (fun hc107 => ?_) (fun hc107 => ?_)
    ·
     refine vs ?_
     have hlt2 : i < e := by have := of_decide_eq_true hc107; omega
     have hbz := hA.low _ _ hby
     have h7z : H7.length ≤ Hz.length + 2 := by
      have h0 := lt_of hG.o
      have := lt_of (hA.low (H7.length - 1) _ (List.getElem?_eq_getElem (by omega)))
      omega
     obtain ⟨Lp, hv, hLb, hacc⟩ := hA.p.opn (Hz.length + 2) h7z
     subst hv
     have hrl : rows.length ≤ 129 * 120 := by
      obtain ⟨ps, hp1, hp2⟩ := hA.r
      have h1 := congrArg List.length hp2
      rw [List.length_append] at h1
      have h2 := gatP_length (g := (mk l a.toNat (l.length - a.toNat))) (sh := (fwd l zeroSh a.toNat (l.length - a.toNat))) (j + 1)
      have h3 := hp1.len
      omega
     refine wr ?_
     iterate 3 refine wN rfl rfl rfl (v132 rfl ?_)
     refine wN (v := .ptr Hy.length 0 0) rfl rfl rfl (v132 rfl ?_)
     refine wN (v := .row true lp 0 s.1.length) rfl (g_load hA.w' rfl rfl) rfl (v132 rfl ?_)
     iterate 2 refine wN rfl rfl rfl (v132 rfl ?_)
     refine wN (v := .row (cutT true s.1.length e none) lp i (e - i)) rfl ((by have h9 := g_slice2 (b := true) (i := 0) (n := (i : Int)) (k := (e : Int)) Tryz.underlying68 sz5 hbz (by omega) (by omega) (show (e : Int) ≤ (s.1.length : Nat) by omega); rw [Nat.zero_add] at h9; exact h9)) rfl (v132 rfl ?_)
     refine w_callS rfl rfl rfl (by kernel_rfl) rfl (bCloneR G Hz _ lp i (e - i) ((s.1.drop i).take (e - i)) (sub_rows hbz (by omega) (by omega)) (fun h => by have := congrArg List.length h; simp at this; omega) (by simp; omega) (fun q hq => hSxs q (List.mem_of_mem_drop (List.mem_of_mem_take hq)))) ?_
     rintro _ Hw ⟨rfl, hHw⟩
     rw [hHw]
     refine v132 rfl ?_
     refine wN (v := .agg [.int .i64 (j : Int), .int .i64 (i : Int), .row false Hz.length 0 ((s.1.drop i).take (e - i)).length]) rfl (rfl) rfl (v132 rfl ?_)
     refine w_opH (v := .row true (Hz.length + 1) 0 1) (env' := _) (H2 := ((Hz ++ [VO.arr 5 1 ((s.1.drop i).take (e - i))]) ++ [VO.arr 108 3 [[.int .i64 (j : Int), .int .i64 (i : Int), .row false Hz.length 0 ((s.1.drop i).take (e - i)).length]]])) rfl (g_build1 (H := (Hz ++ [VO.arr 5 1 ((s.1.drop i).take (e - i))])) (x := .agg [.int .i64 (j : Int), .int .i64 (i : Int), .row false Hz.length 0 ((s.1.drop i).take (e - i)).length]) (cs := [.int .i64 (j : Int), .int .i64 (i : Int), .row false Hz.length 0 ((s.1.drop i).take (e - i)).length]) el52 zc108 (by decide) rfl rfl (by simp)) rfl (rfl) (fun _ h => h) (v132 rfl ?_)
     refine w_opH (v := .row false (Hz.length + 2) 0 (rows.length + 1)) (env' := _) (H2 := (((Hz ++ [VO.arr 5 1 ((s.1.drop i).take (e - i))]) ++ [VO.arr 108 3 [[.int .i64 (j : Int), .int .i64 (i : Int), .row false Hz.length 0 ((s.1.drop i).take (e - i)).length]]]).set Lp .dead ++ [VO.arr 108 3 (rows ++ [[.int .i64 (j : Int), .int .i64 (i : Int), .row false Hz.length 0 ((s.1.drop i).take (e - i)).length]])])) rfl (accR (n := Hz.length + 2) (H := ((Hz ++ [VO.arr 5 1 ((s.1.drop i).take (e - i))]) ++ [VO.arr 108 3 [[.int .i64 (j : Int), .int .i64 (i : Int), .row false Hz.length 0 ((s.1.drop i).take (e - i)).length]]])) (L := Lp) (pgs := rows) (news := [[.int .i64 (j : Int), .int .i64 (i : Int), .row false Hz.length 0 ((s.1.drop i).take (e - i)).length]]) (x := .row true (Hz.length + 1) 0 1) (e := 108) (hacc.imp (fun h => ⟨h.1, by simp; exact h.2⟩) (fun h => ⟨h.1, get_app (get_app h.2)⟩)) (by simp) el52 Tryz.underlying52 rfl zc108 by108 (row_all (rows := [[.int .i64 (j : Int), .int .i64 (i : Int), .row false Hz.length 0 ((s.1.drop i).take (e - i)).length]]) (get_lastn (by simp))) rfl (by decide) (by decide) rfl rfl (by simp) (by simp; have := hrl; omega)) rfl (rfl) (fun _ h => h) (v132 rfl ?_)
     refine wN rfl rfl rfl (v132 rfl ?_)
     refine we rfl (wr ?_)
     iterate 2 refine wN rfl rfl rfl (v132 rfl ?_)
     refine w_endB rfl (n_then (wr ?_))
     iterate 3 refine wN rfl rfl rfl (v132 rfl ?_)
     refine we rfl ?_
     refine hY3 ⟨(e + 1, _, _, _), AI.next hA hi128 hend hlt2 (by omega) hSxs hLb hacc⟩ (by simp only; omega) _ _ ?_ rfl
     repeat' first | exact trivial | refine ⟨.inr rfl, ?_⟩ | refine ⟨.inl rfl, ?_⟩ | refine ⟨.inl ?_, ?_⟩ | fail
     all_goals first | exact (int_succ (by omega)).symm
    have hei : e = i := by have := of_decide_eq_false hc107; omega
    rw [hei] at hend
    refine vc_skip (n_block (n_then (wr ?_)))
    iterate 3 refine wN rfl rfl rfl (v132 rfl ?_)
    refine we rfl ?_
    refine hY3 ⟨(i + 1, _, _, _), hA.skip hi128 hend⟩ (by simp only; omega) _ _ ?_ rfl
    repeat' first | exact trivial | refine ⟨.inr rfl, ?_⟩ | refine ⟨.inl rfl, ?_⟩ | refine ⟨.inl ?_, ?_⟩ | fail
    all_goals first | exact (int_succ (by omega)).symm
   have hend : runEnd (mk l a.toNat (l.length - a.toNat) j) i = e := by rw [← hre]; exact runEnd_stop (by have := of_decide_eq_false hg96; omega)
   refine v132 rfl ?_
   iterate 5 refine wS (wanted_f 96 (by kernel_rfl) rfl) (v132 rfl ?_)
   refine wN rfl rfl rfl (v132 rfl ?_)
   refine we rfl ?_
   refine vc_false rfl ?_
   refine vc_exit (x_then (x_then (x_same (n_then (vs (wr ?_))))))
   iterate 3 refine wN rfl rfl rfl (v132 rfl ?_)
   refine we rfl ?_
   refine vc_cond rfl (fun hc107 => ?_) (fun hc107 => ?_)
   ·
    refine vs ?_
    have hlt2 : i < e := by have := of_decide_eq_true hc107; omega
    have hbz := hA.low _ _ hby
    have h7z : H7.length ≤ Hz.length + 2 := by
     have h0 := lt_of hG.o
     have := lt_of (hA.low (H7.length - 1) _ (List.getElem?_eq_getElem (by omega)))
     omega
    obtain ⟨Lp, hv, hLb, hacc⟩ := hA.p.opn (Hz.length + 2) h7z
    subst hv
    have hrl : rows.length ≤ 129 * 120 := by
     obtain ⟨ps, hp1, hp2⟩ := hA.r
     have h1 := congrArg List.length hp2
     rw [List.length_append] at h1
     have h2 := gatP_length (g := (mk l a.toNat (l.length - a.toNat))) (sh := (fwd l zeroSh a.toNat (l.length - a.toNat))) (j + 1)
     have h3 := hp1.len
     omega
    refine wr ?_
    iterate 3 refine wN rfl rfl rfl (v132 rfl ?_)
    refine wN (v := .ptr Hy.length 0 0) rfl rfl rfl (v132 rfl ?_)
    refine wN (v := .row true lp 0 s.1.length) rfl (g_load hA.w' rfl rfl) rfl (v132 rfl ?_)
    iterate 2 refine wN rfl rfl rfl (v132 rfl ?_)
    refine wN (v := .row (cutT true s.1.length e none) lp i (e - i)) rfl ((by have h9 := g_slice2 (b := true) (i := 0) (n := (i : Int)) (k := (e : Int)) Tryz.underlying68 sz5 hbz (by omega) (by omega) (show (e : Int) ≤ (s.1.length : Nat) by omega); rw [Nat.zero_add] at h9; exact h9)) rfl (v132 rfl ?_)
    refine w_callS rfl rfl rfl (by kernel_rfl) rfl (bCloneR G Hz _ lp i (e - i) ((s.1.drop i).take (e - i)) (sub_rows hbz (by omega) (by omega)) (fun h => by have := congrArg List.length h; simp at this; omega) (by simp; omega) (fun q hq => hSxs q (List.mem_of_mem_drop (List.mem_of_mem_take hq)))) ?_
    rintro _ Hw ⟨rfl, hHw⟩
    rw [hHw]
    refine v132 rfl ?_
    refine wN (v := .agg [.int .i64 (j : Int), .int .i64 (i : Int), .row false Hz.length 0 ((s.1.drop i).take (e - i)).length]) rfl (rfl) rfl (v132 rfl ?_)
    refine w_opH (v := .row true (Hz.length + 1) 0 1) (env' := _) (H2 := ((Hz ++ [VO.arr 5 1 ((s.1.drop i).take (e - i))]) ++ [VO.arr 108 3 [[.int .i64 (j : Int), .int .i64 (i : Int), .row false Hz.length 0 ((s.1.drop i).take (e - i)).length]]])) rfl (g_build1 (H := (Hz ++ [VO.arr 5 1 ((s.1.drop i).take (e - i))])) (x := .agg [.int .i64 (j : Int), .int .i64 (i : Int), .row false Hz.length 0 ((s.1.drop i).take (e - i)).length]) (cs := [.int .i64 (j : Int), .int .i64 (i : Int), .row false Hz.length 0 ((s.1.drop i).take (e - i)).length]) el52 zc108 (by decide) rfl rfl (by simp)) rfl (rfl) (fun _ h => h) (v132 rfl ?_)
    refine w_opH (v := .row false (Hz.length + 2) 0 (rows.length + 1)) (env' := _) (H2 := (((Hz ++ [VO.arr 5 1 ((s.1.drop i).take (e - i))]) ++ [VO.arr 108 3 [[.int .i64 (j : Int), .int .i64 (i : Int), .row false Hz.length 0 ((s.1.drop i).take (e - i)).length]]]).set Lp .dead ++ [VO.arr 108 3 (rows ++ [[.int .i64 (j : Int), .int .i64 (i : Int), .row false Hz.length 0 ((s.1.drop i).take (e - i)).length]])])) rfl (accR (n := Hz.length + 2) (H := ((Hz ++ [VO.arr 5 1 ((s.1.drop i).take (e - i))]) ++ [VO.arr 108 3 [[.int .i64 (j : Int), .int .i64 (i : Int), .row false Hz.length 0 ((s.1.drop i).take (e - i)).length]]])) (L := Lp) (pgs := rows) (news := [[.int .i64 (j : Int), .int .i64 (i : Int), .row false Hz.length 0 ((s.1.drop i).take (e - i)).length]]) (x := .row true (Hz.length + 1) 0 1) (e := 108) (hacc.imp (fun h => ⟨h.1, by simp; exact h.2⟩) (fun h => ⟨h.1, get_app (get_app h.2)⟩)) (by simp) el52 Tryz.underlying52 rfl zc108 by108 (row_all (rows := [[.int .i64 (j : Int), .int .i64 (i : Int), .row false Hz.length 0 ((s.1.drop i).take (e - i)).length]]) (get_lastn (by simp))) rfl (by decide) (by decide) rfl rfl (by simp) (by simp; have := hrl; omega)) rfl (rfl) (fun _ h => h) (v132 rfl ?_)
    refine wN rfl rfl rfl (v132 rfl ?_)
    refine we rfl (wr ?_)
    iterate 2 refine wN rfl rfl rfl (v132 rfl ?_)
    refine w_endB rfl (n_then (wr ?_))
    iterate 3 refine wN rfl rfl rfl (v132 rfl ?_)
    refine we rfl ?_
    refine hY3 ⟨(e + 1, _, _, _), AI.next hA hi128 hend hlt2 (by omega) hSxs hLb hacc⟩ (by simp only; omega) _ _ ?_ rfl
    repeat' first | exact trivial | refine ⟨.inr rfl, ?_⟩ | refine ⟨.inl rfl, ?_⟩ | refine ⟨.inl ?_, ?_⟩ | fail
    all_goals first | exact (int_succ (by omega)).symm
   have hei : e = i := by have := of_decide_eq_false hc107; omega
   rw [hei] at hend
   refine vc_skip (n_block (n_then (wr ?_)))
   iterate 3 refine wN rfl rfl rfl (v132 rfl ?_)
   refine we rfl ?_
   refine hY3 ⟨(i + 1, _, _, _), hA.skip hi128 hend⟩ (by simp only; omega) _ _ ?_ rfl
   repeat' first | exact trivial | refine ⟨.inr rfl, ?_⟩ | refine ⟨.inl rfl, ?_⟩ | refine ⟨.inl ?_, ?_⟩ | fail
   all_goals first | exact (int_succ (by omega)).symm
  have hi128 : ¬ i < 128 := by have := of_decide_eq_false hc90; omega
  refine vc_exit (x_then (x_then (x_same (n_then (vs (wr ?_))))))
  refine wN (v := .ptr Hy.length 0 1) rfl rfl rfl (v132 rfl ?_)
  refine wN (v := .int .i64 s.2) rfl (g_load hA.w' rfl rfl) rfl (v132 rfl ?_)
  refine wN rfl rfl rfl (v132 rfl ?_)
  refine we rfl ?_
  refine vc_cond rfl (fun hc123 => ?_) (fun hc123 => ?_)
  ·
   have hst : 0 < s.2 := by have := of_decide_eq_true hc123; omega
   have h7z : H7.length ≤ Hz.length := by
    have h0 := lt_of hG.o
    have := lt_of (hA.low (H7.length - 1) _ (List.getElem?_eq_getElem (by omega)))
    omega
   obtain ⟨Ls, hu, hLs, hacs⟩ := hA.s.opn Hz.length h7z
   subst hu
   refine wr ?_
   refine wN rfl rfl rfl (v132 rfl ?_)
   refine wN (v := .ptr Hy.length 0 1) rfl rfl rfl (v132 rfl ?_)
   refine wN (v := .int .i64 s.2) rfl (g_load hA.w' rfl rfl) rfl (v132 rfl ?_)
   refine wN (v := .list .tight [[.int .i64 s.2]]) rfl (rfl) rfl (v132 rfl ?_)
   refine w_opH (v := .row false Hz.length 0 ((stmP (fwd l zeroSh a.toNat (l.length - a.toNat)) j).length + 1)) (env' := _) (H2 := (Hz.set Ls .dead ++ [VO.arr 3 1 (stmP (fwd l zeroSh a.toNat (l.length - a.toNat)) j ++ [[.int .i64 s.2]])])) rfl (accR (n := Hz.length) (H := Hz) (L := Ls) (pgs := stmP (fwd l zeroSh a.toNat (l.length - a.toNat)) j) (news := [[.int .i64 s.2]]) (x := .list .tight [[.int .i64 s.2]]) (e := 3) hacs rfl el35 Tryz.underlying35 rfl zc3 by3 rfl rfl (by decide) (by decide) rfl rfl (by simp) (by simp; have := stmP_length (sh := (fwd l zeroSh a.toNat (l.length - a.toNat))) j; omega)) rfl (rfl) (fun _ h => h) (v132 rfl ?_)
   refine wN rfl rfl rfl (v132 rfl ?_)
   refine w_endB rfl (n_then (wr ?_))
   iterate 2 refine wN rfl rfl rfl (v132 rfl ?_)
   refine we rfl ?_
   refine hY2 ⟨(j + 1, _, _, _, _), OI2.stamp hA hi128 hj hsp hst hLs hacs⟩ (by simp only; omega) _ _ ?_ rfl
   repeat' first | exact trivial | refine ⟨.inr rfl, ?_⟩ | refine ⟨.inl rfl, ?_⟩ | refine ⟨.inl ?_, ?_⟩ | fail
   all_goals first | exact (int_succ (by omega)).symm
  have hst : ¬ 0 < s.2 := by have := of_decide_eq_false hc123; omega
  refine vc_skip (n_block (n_then (wr ?_)))
  iterate 2 refine wN rfl rfl rfl (v132 rfl ?_)
  refine we rfl ?_
  refine hY2 ⟨(j + 1, _, _, _, _), OI2.none hA hi128 hj hsp hst⟩ (by simp only; omega) _ _ ?_ rfl
  repeat' first | exact trivial | refine ⟨.inr rfl, ?_⟩ | refine ⟨.inl rfl, ?_⟩ | refine ⟨.inl ?_, ?_⟩ | fail
  all_goals first | exact (int_succ (by omega)).symm
 have hj : j = 120 := by have := of_decide_eq_false hc85; have := hO.le; omega
 subst hj
 refine vc_exit (x_then (x_then (x_same (n_then (vs (wr ?_))))))
 iterate 5 refine wN rfl rfl rfl (v132 rfl ?_)
 refine we rfl (vc_ret (r_fn rfl ?_))
 rw [gatherR, if_pos hs, if_neg (by omega)]
 obtain ⟨L1, hv1, _, h12⟩ := hO.p
 obtain ⟨L2, hu1, _, h13⟩ := hO.s
 rw [hv1, hu1]
 exact ret_tup3 (hO.r.ret h12) (ret_ints (stmP_int 120) h13) rfl
end Lay
end Go.Vi
namespace Go.Vi
open Go Go.Vi Go.Proofs
def calleeZ (o : Oper) : Nat := match o.op with
 | .call { callee := .value (.func f), .. } => f
 | _ => 1000
def mdZ (f : Nat) (o : Oper) : Md := match o.op with
 | .alloc _ => if f = 10 then .shf else .iso
 | .buildSlice .. => if f = 100 ∧ o.dst ≠ some 89 ∧ o.dst ≠ some 95 then .shr else .iso
 | _ => if (calleeZ o) ∈ [35, 38, 72, 129] then .shr else .iso
theorem zFirst_run (G : Glob) : (erun Tryz.prog mdZ G 200 20 9 [] []).map (·.1) = some (.bool true) := by kernel_rfl
theorem zFirst (G : Glob) : Vi.Fn Tryz.prog G 9 [] (.bool true) := by
 obtain ⟨⟨r, H⟩, h1, h2⟩ := Option.map_eq_some_iff.1 (zFirst_run G)
 simp only at h2
 subst h2
 refine XS.mono (erun_ok Tryz.prog mdZ G 200 20 9 [] [] _ H h1) ?_
 rintro r1 H1 ⟨rfl, rfl⟩
 rfl
end Go.Vi
namespace Go.Vi
open Go Go.Vi Go.Proofs
attribute [local irreducible] vops vopsD vc
namespace Lay
def StOkL (n : Int) (sh : List Sheet) : Prop := ∀ s ∈ sh, 0 ≤ s.2 ∧ s.2 ≤ n
theorem StOkL.upd {n m : Int} {sh : List Sheet} {i : Nat} {f : Sheet → Sheet} (h : StOkL n sh) (hn : n ≤ m) (hf : ∀ s, 0 ≤ (f s).2 ∧ (f s).2 ≤ m) : StOkL m (updS sh i f) := by
 unfold updS
 split
 · rename_i s hs
   intro s' hs'
   rcases List.mem_or_eq_of_mem_set hs' with h1 | rfl
   · have := h s' h1; omega
   exact hf s
 intro s hs; have := h s hs; omega
theorem fwd_stamps {l : List Rc} {sh : List Sheet} {a : Nat} (h : StOkL a sh) : ∀ {n : Nat}, StOkL ((a + n : Nat) : Int) (fwd l sh a n)
 | 0 => h
 | n + 1 => by
   have ih := fwd_stamps (l := l) h (n := n)
   rw [fwd_succ]
   unfold stepR
   split
   · unfold layR
     split
     · refine ih.upd (by omega) fun s => ?_
       show 0 ≤ ((a + n : Nat) : Int) + 1 ∧ ((a + n : Nat) : Int) + 1 ≤ _
       omega
     intro s hs; have := ih s hs; omega
   intro s hs; have := ih s hs; omega
theorem valid_res {last : Int} {sh : List Sheet} (h0 : 0 ≤ last) (h1 : last ≤ 1000000) (hn : sh.length = 120) (hs : ShOk sh) (ht : StOkL last sh) : validB last (shRows sh) = true := by
 simp only [validB, Bool.and_eq_true, decide_eq_true_eq, Bool.not_eq_true', List.any_eq_false]
 refine ⟨⟨⟨h0, h1⟩, by rw [shRows_len, hn]; rfl⟩, fun r hr => ?_⟩
 obtain ⟨s, hm, rfl⟩ := List.mem_map.1 hr
 have h128 := (hs s hm).1
 have h2 := ht s hm
 simp only [badS, Bool.not_eq_true, Bool.or_eq_false_iff, bne_eq_false_iff_eq, decide_eq_false_iff_not]
 refine ⟨⟨?_, by omega⟩, by omega⟩
 show ((s.1.length : Nat) : Int) = 128
 omega
theorem pageOk_rows {sh : List Sheet} (h : ShOk sh) : ∀ r ∈ shRows sh, PageOk r := by
 intro r hr
 obtain ⟨s, hs, rfl⟩ := List.mem_map.1 hr
 obtain ⟨h1, h2⟩ := h s hs
 exact ⟨_, _, rfl, .inr ⟨_, _, rfl⟩, by show s.1.length < _; omega, h2⟩
theorem zero_stamps : StOkL ((0 : Nat) : Int) zeroSh := fun s hs => by
 have := List.eq_of_mem_replicate hs
 subst this
 exact ⟨Int.le_refl _, Int.le_refl _⟩
end Lay
end Go.Vi
namespace Go.Vi
namespace Lay
open Go Go.Vi Go.Proofs
theorem valid_na {r : Rc} (h : validP r = true) (hl : laysB r = true) : 1 ≤ (lrows r.aft).length := by
 have hp : (formOf r.kind).1.place = true := by
  simp only [laysB, Bool.or_eq_true, beq_iff_eq] at hl
  rcases hl with h | h <;> rw [h] <;> rfl
 simp only [validP, Bool.and_eq_true, Bool.not_eq_true'] at h
 have hb := h.1.1.1.1.2
 simp only [bad1, hp, Bool.true_and, Bool.not_true, Bool.false_and, Bool.or_false, Bool.not_eq_false'] at hb
 simp only [placeOk, within, Bool.and_eq_true, decide_eq_true_eq] at hb
 have := hb.2.1
 have hna : r.na = (lrows r.aft).length := rfl
 omega
theorem of_valid : ∀ {l : List Rc} {s s' : St}, s.of l = some s' → ∀ r ∈ l, validP r = true
 | [], s, s', h, r, hr => by cases hr
 | q::l, s, s', h, r, hr => by
   simp only [St.of] at h
   split at h
   · rename_i hq
     rcases List.mem_cons.1 hr with rfl | hr
     · exact follows_valid hq
     exact of_valid h r hr
   cases h
def NIn (l : List Rc) : Prop := ∀ r ∈ l, laysB r = true → 1 ≤ (lrows r.aft).length
theorem sound_n {l : List Rc} (h : soundR l = true) : NIn l := by
 obtain ⟨s, hs⟩ := sound_some h
 exact fun r hr hl => valid_na (of_valid hs r hr) hl
theorem set_same {α : Type} {l : List α} {p : Nat} {x : α} (h : l[p]? = some x) : l.set p x = l := by
 apply List.ext_getElem?
 intro j
 by_cases e : p = j
 · subst e; rw [List.getElem?_set_self (List.getElem?_eq_some_iff.1 h).1, h]
 rw [List.getElem?_set_ne e]
theorem layAt {b src : List (List AV)} {a : Nat} (h : a + src.length ≤ b.length) (c : Nat) : (lay b a src)[c]? = if a ≤ c ∧ c < a + src.length then src[c - a]? else b[c]? := by
 have ha : (b.take a).length = a := by simp; omega
 unfold lay
 by_cases h1 : c < a
 · rw [if_neg (by omega), List.getElem?_append_left (by rw [List.length_append, ha]; omega), List.getElem?_append_left (by rw [ha]; exact h1), List.getElem?_take, if_pos h1]
 by_cases h2 : c < a + src.length
 · rw [if_pos ⟨by omega, h2⟩, List.getElem?_append_left (by rw [List.length_append, ha]; exact h2), List.getElem?_append_right (by rw [ha]; omega), ha]
 rw [if_neg (by omega), List.getElem?_append_right (by rw [List.length_append, ha]; omega), List.length_append, ha, List.getElem?_drop]
 congr 1
 omega
theorem runEnd_all {g : Nat → Bool} (i : Nat) : ∀ c, i ≤ c → c < runEnd g i → g c = true ∧ c < 128 := by
 intro c h1 h2
 by_cases h : i < 128 ∧ g i = true
 · by_cases e : i = c
   · subst e; exact ⟨h.2, h.1⟩
   exact runEnd_all (i + 1) c (by omega) (by rw [runEnd_go h.1 h.2]; exact h2)
 rw [runEnd_stop h] at h2; omega
termination_by 128 - i
theorem runEnd_end {g : Nat → Bool} (i : Nat) (hi : runEnd g i < 128) : g (runEnd g i) = false := by
 by_cases h : i < 128 ∧ g i = true
 · have := runEnd_end (g := g) (i + 1) (by rw [runEnd_go h.1 h.2]; exact hi)
   rw [runEnd_go h.1 h.2] at this
   exact this
 rw [runEnd_stop h] at hi ⊢
 have : ¬ g i = true := fun hg => h ⟨hi, hg⟩
 simpa using this
termination_by 128 - i
theorem fwd_at {l : List Rc} {sh : List Sheet} {a n p : Nat} (hl : sh.length = 120) (hp : p < 120) : ∃ s, (fwd l sh a n)[p]? = some s := ⟨_, List.getElem?_eq_getElem (by rw [fwd_length, hl]; exact hp)⟩
theorem fwd_cells {l : List Rc} {sh0 : List Sheet} {a : Nat} (hR : RIn l) (h0 : ShOk sh0) (hl0 : sh0.length = 120) : ∀ {n : Nat} (p : Nat) (s0 s s1 : Sheet), sh0[p]? = some s0 → (fwd l zeroSh a n)[p]? = some s → (fwd l sh0 a n)[p]? = some s1 → (∀ c, s1.1[c]? = if mk l a n p c = true then s.1[c]? else s0.1[c]?) ∧ s1.2 = if 0 < s.2 then s.2 else s0.2
 | 0, p, s0, s, s1, e0, e, e1 => by
   have e2 : zeroSh[p]? = some s := e
   have e3 : sh0[p]? = some s1 := e1
   rw [e0] at e3
   cases e3
   have := List.eq_of_mem_replicate (List.mem_of_getElem? e2)
   subst this
   exact ⟨fun c => by rw [if_neg (by simp [mk])], by rw [if_neg (by decide)]⟩
 | n + 1, p, s0, s, s1, e0, e, e1 => by
   have hp : p < 120 := by rw [← hl0]; exact (List.getElem?_eq_some_iff.1 e0).1
   have hz : zeroSh.length = 120 := List.length_replicate ..
   obtain ⟨t, ht⟩ := fwd_at (l := l) (sh := zeroSh) (a := a) (n := n) hz hp
   obtain ⟨t1, ht1⟩ := fwd_at (l := l) (sh := sh0) (a := a) (n := n) hl0 hp
   obtain ⟨i1, i2⟩ := fwd_cells hR h0 hl0 p s0 t t1 e0 ht ht1
   have o1 := fwd_ok (a := a) hR zeroSh_ok (n := n) t (List.mem_of_getElem? ht)
   have o2 := fwd_ok (a := a) hR h0 (n := n) t1 (List.mem_of_getElem? ht1)
   rw [fwd_succ] at e e1
   cases hr : l[a + n]? with
   | none =>
     simp only [stepR, hr] at e e1
     rw [ht] at e; rw [ht1] at e1
     cases e; cases e1
     exact ⟨fun c => by rw [i1 c]; simp only [mk, hr, Bool.or_false], i2⟩
   | some r =>
     simp only [stepR, hr] at e e1
     by_cases hl : laysB r = true
     · rw [layR, if_pos hl] at e e1
       obtain ⟨k1, k2⟩ := hR r (List.mem_of_getElem? hr)
       have hg0 := k2.g0
       have hg1 := k2.g1
       have hp0 := k2.p0
       have hp1 := k2.p1
       have hna : r.na = (lrows r.aft).length := rfl
       by_cases ep : r.page.toNat = p
       · rw [ep, updS_at ht, List.getElem?_set_self (List.getElem?_eq_some_iff.1 ht).1] at e
         rw [ep, updS_at ht1, List.getElem?_set_self (List.getElem?_eq_some_iff.1 ht1).1] at e1
         cases e; cases e1
         refine ⟨fun c => ?_, by rw [if_pos (by show (0 : Int) < ((a + n : Nat) : Int) + 1; omega)]⟩
         show (lay t1.1 r.pos.toNat (lrows r.aft))[c]? = if mk l a (n + 1) p c = true then (lay t.1 r.pos.toNat (lrows r.aft))[c]? else s0.1[c]?
         rw [layAt (by rw [o2.1]; omega), layAt (by rw [o1.1]; omega), mk_next hr, hit, hl, ep]
         by_cases hc : r.pos.toNat ≤ c ∧ c < r.pos.toNat + (lrows r.aft).length
         · rw [if_pos hc, if_pos hc, if_pos (by simp [hc.1, hc.2])]
         rw [if_neg hc, if_neg hc, i1 c]
         have : (decide (r.pos.toNat ≤ c) && decide (c < r.pos.toNat + (lrows r.aft).length)) = false := by
          rw [Bool.and_eq_false_iff, decide_eq_false_iff_not, decide_eq_false_iff_not]; omega
         rw [this]
         simp
       have u : ∀ (sh : List Sheet) (f : Sheet → Sheet), (updS sh r.page.toNat f)[p]? = sh[p]? := fun sh f => by
        unfold updS
        split
        · rw [List.getElem?_set_ne ep]
        · rfl
       rw [u, ht] at e
       rw [u, ht1] at e1
       cases e; cases e1
       refine ⟨fun c => ?_, i2⟩
       rw [i1 c, mk_next hr, hit]
       simp [ep]
     have hl' : laysB r = false := by simpa using hl
     rw [layR_no hl', ht] at e
     rw [layR_no hl', ht1] at e1
     cases e; cases e1
     exact ⟨fun c => by rw [i1 c, mk_no hr hl'], i2⟩
theorem st_mark {l : List Rc} {a : Nat} (hR : RIn l) (hN : NIn l) : ∀ {n : Nat} (p : Nat) (s : Sheet), (fwd l zeroSh a n)[p]? = some s → 0 < s.2 → ∃ c, c < 128 ∧ mk l a n p c = true
 | 0, p, s, e, h => by
   have := List.eq_of_mem_replicate (List.mem_of_getElem? (show zeroSh[p]? = some s from e))
   subst this
   exact absurd h (by decide)
 | n + 1, p, s, e, h => by
   have hz : zeroSh.length = 120 := List.length_replicate ..
   have hp : p < 120 := by have := (List.getElem?_eq_some_iff.1 e).1; rw [fwd_length, hz] at this; exact this
   obtain ⟨t, ht⟩ := fwd_at (l := l) (sh := zeroSh) (a := a) (n := n) hz hp
   have ih := st_mark (a := a) hR hN (n := n) p t ht
   have up : (∃ c, c < 128 ∧ mk l a n p c = true) → ∃ c, c < 128 ∧ mk l a (n + 1) p c = true := fun ⟨c, h1, h2⟩ => ⟨c, h1, by simp only [mk, h2, Bool.true_or]⟩
   rw [fwd_succ] at e
   cases hr : l[a + n]? with
   | none =>
     simp only [stepR, hr] at e
     rw [ht] at e; cases e
     exact up (ih h)
   | some r =>
     simp only [stepR, hr] at e
     by_cases hl : laysB r = true
     · have hm := List.mem_of_getElem? hr
       obtain ⟨k1, k2⟩ := hR r hm
       have hn := hN r hm hl
       have hp0 := k2.p0
       have hp1 := k2.p1
       have hna : r.na = (lrows r.aft).length := rfl
       by_cases ep : r.page.toNat = p
       · refine ⟨r.pos.toNat, by omega, ?_⟩
         rw [mk_next hr, hit, hl, ep]
         have : decide (r.pos.toNat < r.pos.toNat + (lrows r.aft).length) = true := decide_eq_true (by omega)
         rw [this]
         simp
       rw [layR, if_pos hl] at e
       unfold updS at e
       split at e
       · rw [List.getElem?_set_ne ep, ht] at e
         cases e
         exact up (ih h)
       rw [ht] at e; cases e
       exact up (ih h)
     have hl' : laysB r = false := by simpa using hl
     rw [layR_no hl', ht] at e
     cases e
     exact up (ih h)
theorem lay_pcs {g : Nat → Bool} {b : List (List AV)} {p : Nat} (hb : b.length = 128) (i : Nat) : ∀ (sh : List Sheet) (b0 : List (List AV)) (t0 : Int), sh[p]? = some (b0, t0) → b0.length = 128 → ∃ b' : List (List AV), b'.length = 128 ∧ (∀ c, b'[c]? = if i ≤ c ∧ c < 128 ∧ g c = true then b[c]? else b0[c]?) ∧ (pcs g b p i).foldl layP sh = sh.set p (b', t0) := by
 intro sh b0 t0 hs h0
 by_cases h : i < 128
 · have hre := runEnd_le g i
   by_cases hh : i < runEnd g i
   · generalize he : runEnd g i = e at *
     have hseg : ((b.drop i).take (e - i)).length = e - i := by simp; omega
     have hin : i + ((b.drop i).take (e - i)).length ≤ b0.length := by rw [hseg]; omega
     obtain ⟨b', h1, h2, h3⟩ := lay_pcs (g := g) (p := p) hb (e + 1) (sh.set p (lay b0 i ((b.drop i).take (e - i)), t0)) (lay b0 i ((b.drop i).take (e - i))) t0 (List.getElem?_set_self (List.getElem?_eq_some_iff.1 hs).1) (by rw [lay_length hin]; exact h0)
     refine ⟨b', h1, fun c => ?_, ?_⟩
     · rw [h2 c, layAt hin, hseg]
       by_cases c1 : c < i
       · rw [if_neg (by omega), if_neg (by omega), if_neg (by omega)]
       by_cases c2 : c < e
       · have := runEnd_all (g := g) i c (by omega) (by omega)
         rw [if_neg (by omega), if_pos (by omega), if_pos ⟨by omega, this.2, this.1⟩, List.getElem?_take, if_pos (by omega), List.getElem?_drop]
         congr 1; omega
       rw [if_neg (show ¬ (i ≤ c ∧ c < i + (e - i)) by omega)]
       by_cases c3 : c = e
       · subst c3
         rw [if_neg (by omega), if_neg]
         rintro ⟨_, q1, q2⟩
         have := runEnd_end (g := g) i (by omega)
         rw [he, q2] at this
         cases this
       by_cases c4 : c < 128 ∧ g c = true
       · rw [if_pos ⟨by omega, c4⟩, if_pos ⟨by omega, c4⟩]
       rw [if_neg (fun h => c4 h.2), if_neg (fun h => c4 h.2)]
     rw [pcs_run h he hh, List.foldl_cons]
     have e1 : layP sh [.int .i64 p, .int .i64 i, .list .loose ((b.drop i).take (e - i))] = sh.set p (lay b0 i ((b.drop i).take (e - i)), t0) := by
      show updS sh p (fun s => (lay s.1 i ((b.drop i).take (e - i)), s.2)) = _
      rw [updS_at hs]
     rw [e1, h3, List.set_set]
   have he : runEnd g i = i := by omega
   obtain ⟨b', h1, h2, h3⟩ := lay_pcs (g := g) (p := p) hb (i + 1) sh b0 t0 hs h0
   refine ⟨b', h1, fun c => ?_, by rw [pcs_next h he]; exact h3⟩
   rw [h2 c]
   by_cases c1 : c = i
   · subst c1
     have := runEnd_end (g := g) c (by omega)
     rw [he] at this
     rw [if_neg (by omega), if_neg (by rw [this]; simp)]
   by_cases c4 : i ≤ c ∧ c < 128 ∧ g c = true
   · rw [if_pos ⟨by omega, c4.2⟩, if_pos c4]
   rw [if_neg (fun h => c4 ⟨by omega, h.2⟩), if_neg c4]
 exact ⟨b0, h0, fun c => by rw [if_neg (by omega)], by rw [pcs_stop h, set_same hs]; rfl⟩
termination_by 128 - i
decreasing_by all_goals omega
theorem lay_gat {g : Nat → Nat → Bool} {gsh sh0 : List Sheet} (hg : ShOk gsh) (h0 : ShOk sh0) (hl : gsh.length = 120) (hl0 : sh0.length = 120) : ∀ k, k ≤ 120 → ((gatP g gsh k).foldl layP sh0).length = 120 ∧ ∀ (p : Nat) (s0 s : Sheet), sh0[p]? = some s0 → gsh[p]? = some s → ∃ b' : List (List AV), ((gatP g gsh k).foldl layP sh0)[p]? = some (b', s0.2) ∧ b'.length = 128 ∧ ∀ c, b'[c]? = if p < k ∧ c < 128 ∧ g p c = true then s.1[c]? else s0.1[c]?
 | 0, _ => ⟨hl0, fun p s0 s e0 e => ⟨s0.1, e0, (h0 s0 (List.mem_of_getElem? e0)).1, fun c => by rw [if_neg (by omega)]⟩⟩
 | k + 1, hk => by
   obtain ⟨j1, j2⟩ := lay_gat hg h0 hl hl0 k (by omega)
   obtain ⟨sk, hsk⟩ : ∃ s, gsh[k]? = some s := ⟨_, List.getElem?_eq_getElem (by omega)⟩
   obtain ⟨s0k, hs0k⟩ : ∃ s, sh0[k]? = some s := ⟨_, List.getElem?_eq_getElem (by omega)⟩
   obtain ⟨bk, e1, e2, e3⟩ := j2 k s0k sk hs0k hsk
   obtain ⟨b', f1, f2, f3⟩ := lay_pcs (g := g k) (p := k) (hg sk (List.mem_of_getElem? hsk)).1 0 _ bk s0k.2 e1 e2
   rw [gatP_next hsk, List.foldl_append, f3]
   refine ⟨by rw [List.length_set]; exact j1, fun p s0 s e0 e => ?_⟩
   by_cases ep : k = p
   · subst ep
     rw [hs0k] at e0; rw [hsk] at e
     cases e0; cases e
     refine ⟨b', List.getElem?_set_self (by rw [j1]; omega), f1, fun c => ?_⟩
     rw [f2 c, e3 c, if_neg (show ¬ (k < k ∧ c < 128 ∧ g k c = true) by omega)]
     by_cases c4 : c < 128 ∧ g k c = true
     · rw [if_pos ⟨Nat.zero_le _, c4⟩, if_pos ⟨by omega, c4⟩]
     rw [if_neg (fun h => c4 h.2), if_neg (fun h => c4 h.2)]
   obtain ⟨b2, q1, q2, q3⟩ := j2 p s0 s e0 e
   refine ⟨b2, by rw [List.getElem?_set_ne ep]; exact q1, q2, fun c => ?_⟩
   rw [q3 c]
   by_cases c4 : p < k ∧ c < 128 ∧ g p c = true
   · rw [if_pos c4, if_pos ⟨by omega, c4.2⟩]
   rw [if_neg c4, if_neg (fun h => c4 ⟨by omega, h.2⟩)]
def pgP (sh : List Sheet) : Nat → List (List AV)
 | 0 => []
 | k + 1 => pgP sh k ++ (match sh[k]? with
   | some s => if 0 < s.2 then [[.int .i64 k]] else []
   | none => [])
theorem pgP_length {sh : List Sheet} : ∀ k, (pgP sh k).length = (stmP sh k).length
 | 0 => rfl
 | k + 1 => by
   simp only [pgP, stmP, List.length_append, pgP_length k]
   cases sh[k]? with
   | none => rfl
   | some s => by_cases h : 0 < s.2 <;> simp [h]
theorem stamp_fold {gsh sh1 : List Sheet} (hl : gsh.length = 120) (hl1 : sh1.length = 120) : ∀ k, k ≤ 120 → (((pgP gsh k).zip (stmP gsh k)).foldl stampP sh1).length = 120 ∧ ∀ (p : Nat) (x s : Sheet), sh1[p]? = some x → gsh[p]? = some s → (((pgP gsh k).zip (stmP gsh k)).foldl stampP sh1)[p]? = some (x.1, if p < k ∧ 0 < s.2 then s.2 else x.2)
 | 0, _ => ⟨hl1, fun p x s e1 e => by rw [if_neg (by omega)]; exact e1⟩
 | k + 1, hk => by
   obtain ⟨j1, j2⟩ := stamp_fold hl hl1 k (by omega)
   obtain ⟨sk, hsk⟩ : ∃ s, gsh[k]? = some s := ⟨_, List.getElem?_eq_getElem (by omega)⟩
   obtain ⟨xk, hxk⟩ : ∃ s, sh1[k]? = some s := ⟨_, List.getElem?_eq_getElem (by omega)⟩
   have jk := j2 k xk sk hxk hsk
   by_cases h0 : 0 < sk.2
   · have e1 : pgP gsh (k + 1) = pgP gsh k ++ [[.int .i64 k]] := by simp only [pgP, hsk, if_pos h0]
     rw [e1, stmP_pos hsk h0, List.zip_append (pgP_length k), List.foldl_append]
     have e2 : ∀ sh : List Sheet, sh[k]? = some (xk.1, if k < k ∧ 0 < sk.2 then sk.2 else xk.2) → (List.zip [[AV.int .i64 (k : Int)]] [[AV.int .i64 sk.2]]).foldl stampP sh = sh.set k (xk.1, sk.2) := fun sh hsh => by
      show updS sh k (fun s => (s.1, sk.2)) = _
      rw [updS_at hsh]
     rw [e2 _ jk]
     refine ⟨by rw [List.length_set]; exact j1, fun p x s e0 e => ?_⟩
     by_cases ep : k = p
     · subst ep
       rw [hxk] at e0; rw [hsk] at e
       cases e0; cases e
       rw [List.getElem?_set_self (by rw [j1]; omega), if_pos ⟨by omega, h0⟩]
     rw [List.getElem?_set_ne ep, j2 p x s e0 e]
     by_cases c4 : p < k ∧ 0 < s.2
     · rw [if_pos c4, if_pos ⟨by omega, c4.2⟩]
     rw [if_neg c4, if_neg (fun h => c4 ⟨by omega, h.2⟩)]
   have e1 : pgP gsh (k + 1) = pgP gsh k := by simp only [pgP, hsk, if_neg h0, List.append_nil]
   rw [e1, stmP_no hsk h0]
   refine ⟨j1, fun p x s e0 e => ?_⟩
   rw [j2 p x s e0 e]
   by_cases ep : k = p
   · subst ep
     rw [hsk] at e
     cases e
     rw [if_neg (by omega), if_neg (fun h => h0 h.2)]
   by_cases c4 : p < k ∧ 0 < s.2
   · rw [if_pos c4, if_pos ⟨by omega, c4.2⟩]
   rw [if_neg c4, if_neg (fun h => c4 ⟨by omega, h.2⟩)]
theorem okP_pcs {b : List (List AV)} {p i e : Nat} (hb : b.length = 128) (hp : p < 120) (hie : i < e) (he : e ≤ 128) : okP [.int .i64 p, .int .i64 i, .list .loose ((b.drop i).take (e - i))] = true := by
 have hl : ((b.drop i).take (e - i)).length = e - i := by simp; omega
 show (!(decide ((p : Int) < 0) || decide ((p : Int) ≥ 120) || decide ((i : Int) < 0) || decide ((i : Int) ≥ 128) || decide ((((b.drop i).take (e - i)).length : Int) < 1) || decide ((((b.drop i).take (e - i)).length : Int) > 128 - (i : Int)))) = true
 rw [hl]
 simp only [Bool.not_eq_true', Bool.or_eq_false_iff, decide_eq_false_iff_not]
 omega
theorem scan_here {g : Nat → Bool} {b : List (List AV)} {p : Nat} (hb : b.length = 128) (hp : p < 120) (i : Nat) : ∀ q : List AV, pPg q = p → pAt q + (pBy q).length < i → ∃ q', pPg q' = p ∧ ∀ rest, scan (some q) (pcs g b p i ++ rest) = scan (some q') rest := by
 intro q h1 h2
 by_cases h : i < 128
 · have hre := runEnd_le g i
   by_cases hh : i < runEnd g i
   · generalize he : runEnd g i = e at *
     have hl : ((b.drop i).take (e - i)).length = e - i := by simp; omega
     have ho := okP_pcs (p := p) hb hp hh (hre.2 (by omega))
     obtain ⟨q', k1, k2⟩ := scan_here (g := g) hb hp (e + 1) [.int .i64 p, .int .i64 i, .list .loose ((b.drop i).take (e - i))] rfl (by simp only [pAt, pBy, lrows, hl]; omega)
     refine ⟨q', k1, fun rest => ?_⟩
     rw [pcs_run h he hh, List.cons_append, scan, if_pos ho, if_neg (by rw [h1]; show ¬ ((p : Int) > (p : Int)); omega), if_neg (by rw [h1]; show ¬ ((p : Int) < (p : Int) ∨ (i : Int) ≤ pAt q + ((pBy q).length : Nat)); omega)]
     exact k2 rest
   have he : runEnd g i = i := by omega
   obtain ⟨q', k1, k2⟩ := scan_here (g := g) hb hp (i + 1) q h1 (by omega)
   exact ⟨q', k1, fun rest => by rw [pcs_next h he]; exact k2 rest⟩
 exact ⟨q, h1, fun rest => by rw [pcs_stop h]; rfl⟩
termination_by 128 - i
decreasing_by all_goals omega
theorem scan_fresh {g : Nat → Bool} {b : List (List AV)} {p : Nat} (hb : b.length = 128) (hp : p < 120) (i : Nat) : ∀ q : Option (List AV), (∀ r, q = some r → pPg r < p) → (∃ c, i ≤ c ∧ c < 128 ∧ g c = true) → ∃ q', pPg q' = p ∧ ∀ rest, scan q (pcs g b p i ++ rest) = (scan (some q') rest).map ([.int .i64 p]::·) := by
 intro q h1 hc
 obtain ⟨c, c1, c2, c3⟩ := hc
 have h : i < 128 := by omega
 have hre := runEnd_le g i
 by_cases hh : i < runEnd g i
 · generalize he : runEnd g i = e at *
   have hl : ((b.drop i).take (e - i)).length = e - i := by simp; omega
   have ho := okP_pcs (p := p) hb hp hh (hre.2 (by omega))
   obtain ⟨q', k1, k2⟩ := scan_here (g := g) hb hp (e + 1) [.int .i64 p, .int .i64 i, .list .loose ((b.drop i).take (e - i))] rfl (by simp only [pAt, pBy, lrows, hl]; omega)
   refine ⟨q', k1, fun rest => ?_⟩
   rw [pcs_run h he hh, List.cons_append, ← k2 rest]
   cases q with
   | none => rw [scan, if_pos ho]; rfl
   | some r => rw [scan, if_pos ho, if_pos (by have := h1 r rfl; show (p : Int) > pPg r; omega)]; rfl
 have he : runEnd g i = i := by omega
 have hg : g i = false := by have := runEnd_end (g := g) i (by omega); rw [he] at this; exact this
 have hne : c ≠ i := fun e => by rw [e, hg] at c3; cases c3
 obtain ⟨q', k1, k2⟩ := scan_fresh (g := g) hb hp (i + 1) q h1 ⟨c, by omega, c2, c3⟩
 exact ⟨q', k1, fun rest => by rw [pcs_next h he]; exact k2 rest⟩
termination_by 128 - i
theorem scan_gat {g : Nat → Nat → Bool} {gsh : List Sheet} (hg : ShOk gsh) (hl : gsh.length = 120) (hns : NoSt g gsh) (hm : ∀ (p : Nat) (s : Sheet), gsh[p]? = some s → 0 < s.2 → ∃ c, c < 128 ∧ g p c = true) : ∀ k : Nat, k ≤ 120 → ∃ q : Option (List AV), (∀ r, q = some r → pPg r < (k : Int)) ∧ ∀ rest, scan none (gatP g gsh k ++ rest) = (scan q rest).map (pgP gsh k ++ ·)
 | 0, _ => ⟨none, fun r h => (by cases h), fun rest => by
   show scan none rest = (scan none rest).map (fun z => [] ++ z)
   cases scan none rest <;> rfl⟩
 | k + 1, hk => by
   obtain ⟨q, q1, q2⟩ := scan_gat hg hl hns hm k (by omega)
   obtain ⟨sk, hsk⟩ : ∃ s, gsh[k]? = some s := ⟨_, List.getElem?_eq_getElem (by omega)⟩
   by_cases h0 : 0 < sk.2
   · obtain ⟨c, c1, c2⟩ := hm k sk hsk h0
     obtain ⟨q', k1, k2⟩ := scan_fresh (g := g k) (b := sk.1) (p := k) (hg sk (List.mem_of_getElem? hsk)).1 (by omega) 0 q q1 ⟨c, Nat.zero_le _, c1, c2⟩
     have e1 : pgP gsh (k + 1) = pgP gsh k ++ [[.int .i64 k]] := by simp only [pgP, hsk, if_pos h0]
     refine ⟨some q', fun r h => by cases h; rw [k1]; omega, fun rest => ?_⟩
     rw [gatP_next hsk, List.append_assoc, q2, k2 rest, e1]
     cases scan (some q') rest with
     | none => rfl
     | some z => simp only [Option.map_some, List.append_assoc, List.cons_append, List.nil_append]
   have hst : sk.2 = 0 := by have := (hns k sk hsk).1; omega
   have e1 : pgP gsh (k + 1) = pgP gsh k := by simp only [pgP, hsk, if_neg h0, List.append_nil]
   refine ⟨q, fun r h => by have := q1 r h; omega, fun rest => ?_⟩
   rw [gatP_next hsk, pcs_none ((hns k sk hsk).2 hst), List.append_nil, e1]
   exact q2 rest
theorem gather_scan {l : List Rc} {a n : Nat} (hR : RIn l) (hN : NIn l) (hn : a + n ≤ l.length) : scan none (gatP (mk l a n) (fwd l zeroSh a n) 120) = some (pgP (fwd l zeroSh a n) 120) := by
 have hz : zeroSh.length = 120 := List.length_replicate ..
 obtain ⟨q, _, h⟩ := scan_gat (g := mk l a n) (fwd_ok hR zeroSh_ok) (by rw [fwd_length, hz]) (noSt_fwd hn) (fun p s e h0 => st_mark hR hN p s e h0) 120 (Nat.le_refl _)
 have := h []
 rw [List.append_nil] at this
 rw [this]
 cases q <;> simp only [scan, Option.map_some, List.append_nil]
theorem gather_lay {l : List Rc} {a n : Nat} {sh0 : List Sheet} (hR : RIn l) (hN : NIn l) (hn : a + n ≤ l.length) (h0 : ShOk sh0) (hl0 : sh0.length = 120) : withOk (shRows sh0) (gatP (mk l a n) (fwd l zeroSh a n) 120) (pgP (fwd l zeroSh a n) 120) (stmP (fwd l zeroSh a n) 120) = fwd l sh0 a n := by
 have hz : zeroSh.length = 120 := List.length_replicate ..
 have hg : ShOk (fwd l zeroSh a n) := fwd_ok hR zeroSh_ok
 have hl : (fwd l zeroSh a n).length = 120 := by rw [fwd_length, hz]
 obtain ⟨j1, j2⟩ := lay_gat (g := mk l a n) hg h0 hl hl0 120 (Nat.le_refl _)
 obtain ⟨k1, k2⟩ := stamp_fold hl j1 120 (Nat.le_refl _)
 unfold withOk
 rw [shOf_shRows]
 apply List.ext_getElem?
 intro p
 by_cases hp : p < 120
 · obtain ⟨s, hs⟩ := fwd_at (l := l) (sh := zeroSh) (a := a) (n := n) hz hp
   obtain ⟨s1, hs1⟩ := fwd_at (l := l) (sh := sh0) (a := a) (n := n) hl0 hp
   obtain ⟨s0, hs0⟩ : ∃ s, sh0[p]? = some s := ⟨_, List.getElem?_eq_getElem (by omega)⟩
   obtain ⟨b', e1, e2, e3⟩ := j2 p s0 s hs0 hs
   obtain ⟨f1, f2⟩ := fwd_cells (a := a) (n := n) hR h0 hl0 p s0 s s1 hs0 hs hs1
   rw [k2 p _ s e1 hs, hs1]
   have e9 : ((b', if p < 120 ∧ 0 < s.2 then s.2 else s0.2) : Sheet) = s1 := by
    refine Prod.ext ?_ ?_
    · apply List.ext_getElem?
      intro c
      show b'[c]? = s1.1[c]?
      rw [e3 c, f1 c]
      by_cases hc : c < 128
      · by_cases hm : mk l a n p c = true
        · rw [if_pos ⟨hp, hc, hm⟩, if_pos hm]
        rw [if_neg (fun h => hm h.2.2), if_neg hm]
      have h3 : s.1.length = 128 := (hg s (List.mem_of_getElem? hs)).1
      have h4 : s0.1.length = 128 := (h0 s0 (List.mem_of_getElem? hs0)).1
      rw [if_neg (fun h => hc h.2.1), List.getElem?_eq_none (show s0.1.length ≤ c by omega)]
      split
      · rw [List.getElem?_eq_none (by omega)]
      rfl
    show (if p < 120 ∧ 0 < s.2 then s.2 else s0.2) = s1.2
    rw [f2]
    by_cases h5 : 0 < s.2
    · rw [if_pos ⟨hp, h5⟩, if_pos h5]
    rw [if_neg (fun h => h5 h.2), if_neg h5]
   exact congrArg some e9
 rw [List.getElem?_eq_none (by omega), List.getElem?_eq_none (by rw [fwd_length, hl0]; omega)]
theorem stmP_le {sh : List Sheet} {n : Int} (h : StOkL n sh) : ∀ k, (stmP sh k).any (badN n) = false
 | 0 => rfl
 | k + 1 => by
   simp only [stmP, List.any_append, stmP_le h k, Bool.false_or]
   split
   · rename_i s hs
     have := h s (List.mem_of_getElem? hs)
     split
     · simp only [List.any_cons, List.any_nil, Bool.or_false, badN, Bool.or_eq_false_iff, decide_eq_false_iff_not]
       omega
     rfl
   rfl
theorem gather_bad {l : List Rc} {a n : Nat} (hl : a + n ≤ 1000000) : badW (a : Int) ((a + n : Nat) : Int) (pgP (fwd l zeroSh a n) 120) (stmP (fwd l zeroSh a n) 120) = false := by
 have h0 : StOkL ((a : Nat) : Int) zeroSh := fun s hs => by
  have := List.eq_of_mem_replicate hs
  subst this
  exact ⟨Int.le_refl _, by show (0 : Int) ≤ (a : Int); omega⟩
 simp only [badW, pgP_length, stmP_le (fwd_stamps (l := l) h0 (n := n)) 120, Bool.or_false, Bool.or_eq_false_iff, decide_eq_false_iff_not, bne_self_eq_false, Bool.false_or]
 omega
theorem fwd_two {l : List Rc} {sh : List Sheet} {a m n : Nat} : fwd l (fwd l sh a m) (a + m) n = fwd l sh a (m + n) := by
 unfold fwd
 first | (rw [← List.foldl_append, List.range'_append_1]) | (rw [← List.range'_append_1, List.foldl_append])
theorem stepR_take {l : List Rc} {k j : Nat} {sh : List Sheet} (h : j < k) : stepR (l.take k) sh j = stepR l sh j := by
 simp only [stepR, List.getElem?_take, if_pos h]
theorem fwd_take {l : List Rc} {k a : Nat} {sh : List Sheet} : ∀ {n : Nat}, a + n ≤ k → fwd (l.take k) sh a n = fwd l sh a n
 | 0, _ => rfl
 | n + 1, h => by rw [fwd_succ, fwd_succ, fwd_take (by omega), stepR_take (by omega)]
theorem mk_take {l : List Rc} {k a p c : Nat} : ∀ {n : Nat}, a + n ≤ k → mk (l.take k) a n p c = mk l a n p c
 | 0, _ => rfl
 | n + 1, h => by simp only [mk, mk_take (n := n) (by omega : a + n ≤ k), List.getElem?_take, if_pos (show a + n < k by omega)]
theorem sound_take {l : List Rc} (h : soundR l = true) (k : Nat) : soundR (l.take k) = true := by
 unfold soundR at h ⊢
 cases h1 : St.new.of (l.take k) with
 | none => rw [of_none k h1] at h; simp at h
 | some s => rfl
end Lay
end Go.Vi
namespace Go.Vi
open Go Go.Vi Go.Proofs
attribute [local irreducible] vops vopsD vc
namespace Lay
def mm : List AV := List.replicate 128 (.bool false)
def bb : List AV := List.replicate 128 (.int .u8 0)
attribute [local irreducible] mm bb
theorem OI2.fin {H7 Hz : Hp} {q pg i : Nat} {w : VO} {g : Nat → Nat → Bool} {sh : List Sheet} {j : Nat} {rows : List (List AV)} {v : AV} {b : List (List AV)} {u : AV} (h : AI H7 q w (g j) b pg (gatP g sh (j + 1)) u (stmP sh (j + 1)) i Hz v rows) (hi : ¬ i < 128) (hj : j < 120) : OI2 H7 g sh (j + 1) Hz v rows u := by
 obtain ⟨ps, h1, h2⟩ := h.r
 rw [pcs_stop hi, List.append_nil] at h2
 subst h2
 exact ⟨hj, h.low, h.p, h1, h.s⟩
theorem OI2.skip {Hx Hy : Hp} {g : Nat → Nat → Bool} {sh : List Sheet} {s : Sheet} {j : Nat} {rows : List (List AV)} {v u : AV} (h : OI2 [] g sh j Hx v rows u) (hj : j < 120) (hs : sh[j]? = some s) (h0 : s.2 = 0) (hg : ∀ c, g j c = false) (hlow : ∀ (k : Nat) (o : VO), Hx[k]? = some o → Hy[k]? = some o) : OI2 [] g sh (j + 1) Hy v rows u :=
 ⟨hj, fun k o hk => (by cases hk), h.p.keep fun L _ h3 => hlow _ _ h3, by rw [gatP_next hs, pcs_none hg, List.append_nil]; exact h.r.keep fun l bs hl => hlow _ _ hl, by rw [stmP_no hs (by omega)]; exact h.s.keep fun L _ h3 => hlow _ _ h3⟩
end Lay
end Go.Vi
namespace Go.Vi
open Go Go.Vi Go.Proofs
attribute [local irreducible] vops vopsD vc
namespace Lay
def GPc (r : List AV) : Prop := ∃ p a b, r = [.int .i64 p, .int .i64 a, b] ∧ IsL b ∧ (lrows b).length < 9223372036854775808 ∧ ∀ q ∈ lrows b, ∃ v, q = [AV.int .u8 v]
theorem pcs_mem {g : Nat → Bool} {b : List (List AV)} {p : Nat} (hb : Bs b) (hl : b.length = 128) (i : Nat) : ∀ r ∈ pcs g b p i, GPc r := by
 by_cases h : i < 128
 · have h1 := (runEnd_le g i).1
   have ih := pcs_mem (g := g) (p := p) hb hl (runEnd g i + 1)
   by_cases hh : i < runEnd g i
   · rw [pcs_run h rfl hh]
     intro r hr
     rcases List.mem_cons.1 hr with rfl | hr
     · exact ⟨_, _, _, rfl, .inr ⟨_, _, rfl⟩, by show ((b.drop i).take (runEnd g i - i)).length < _; simp; omega, fun q hq => hb q (List.mem_of_mem_drop (List.mem_of_mem_take hq))⟩
     exact ih r hr
   have he : runEnd g i = i := by omega
   rw [he] at ih
   rw [pcs_next h he]
   exact ih
 rw [pcs_stop h]
 intro r hr
 cases hr
termination_by 128 - i
decreasing_by have := (runEnd_le g i).1; omega
theorem gatP_mem {g : Nat → Nat → Bool} {sh : List Sheet} (h : ShOk sh) : ∀ k, ∀ r ∈ gatP g sh k, GPc r
 | 0, r, hr => by cases hr
 | k + 1, r, hr => by
   simp only [gatP, List.mem_append] at hr
   rcases hr with hr | hr
   · exact gatP_mem h k r hr
   split at hr
   · rename_i s hs
     have := h s (List.mem_of_getElem? hs)
     exact pcs_mem this.2 this.1 0 r hr
   cases hr
theorem lv_rows {rows : List (List AV)} : lrows (lv rows) = rows := by
 unfold lv
 split
 · rename_i h; rw [h]; rfl
 rfl
theorem lv_isL {rows : List (List AV)} : IsL (lv rows) := by
 unfold lv
 split
 · exact .inl rfl
 exact .inr ⟨_, _, rfl⟩
end Lay
end Go.Vi
namespace Go.Vi
open Go Go.Vi Go.Proofs
attribute [local irreducible] vops vopsD vc
namespace Lay
theorem el57 : elemAt Tryz.prog 57 = some (some 2, 5, 1) := by kernel_rfl
theorem lv_val {rows : List (List AV)} : (lv rows).isVal = true := by unfold lv; split <;> rfl
theorem slice_recs {x : AV} {l : List Rc} (hx : Recs x l) {A : Nat} (hA : A ≤ l.length) : ∃ xa, (∀ H : Hp, (vslice Tryz.prog H 43 x none (some (.int .i64 (A : Int))) none).map (·, H) = some (xa, H)) ∧ Recs xa (l.take A) := by
 have hu : Tryz.prog.underlying 43 = some (.slice 93) := Tryz.underlying43
 have hr := hx.rows
 rcases hx.isL with rfl | ⟨tg, rows, rfl⟩
 · have hl : l = [] := by
    have := congrArg List.length hr
    simp [lrows] at this
    exact List.eq_nil_of_length_eq_zero (by omega)
   subst hl
   have h0 : A = 0 := by simpa using hA
   subst h0
   refine ⟨.nils, fun H => ?_, hx⟩
   have hb : vbounds 0 none (some (.int .i64 ((0 : Nat) : Int))) none = some (0, 0, none) := by simp [vbounds, bnd]
   simp only [vslice, hu, sz93, hb, Option.map_some]
 have hrows : rows = l.map Rc.row := hr
 have hlen : rows.length = l.length := by rw [hrows, List.length_map]
 have hb : vbounds rows.length none (some (.int .i64 (A : Int))) none = some (0, A, none) := by
  have h1 : A ≤ rows.length := by omega
  have h2 : (0 : Int) ≤ (A : Int) := by omega
  simp [vbounds, bnd, h1, h2]
 have hlo : lenOk 10 rows = true := List.all_eq_true.2 fun q hq => by
  rw [hrows] at hq
  obtain ⟨r, _, rfl⟩ := List.mem_map.1 hq
  rfl
 refine ⟨.list (cutTag tg rows.length 0 A none) ((rows.drop 0).take (A - 0)), fun H => ?_, ⟨.inr ⟨_, _, rfl⟩, ?_, ?_, fun r hr => hx.ok r (List.mem_of_mem_take hr), by rw [List.length_take]; have := hx.len; omega⟩⟩
 · simp only [vslice, hu, sz93, hb, hlo, if_true, Option.map_some]
 · have hv := hx.val
   have h1 : tg ≠ .bor := by simpa [AV.isVal] using hv
   show (cutTag tg rows.length 0 A none != Tg.bor) = true
   unfold cutTag
   rw [if_neg h1]
   show ((if tg = .tight ∧ A = rows.length then Tg.tight else Tg.loose) != Tg.bor) = true
   split <;> rfl
 show (rows.drop 0).take (A - 0) = (l.take A).map Rc.row
 rw [List.drop_zero, Nat.sub_zero, hrows, List.map_take]
theorem fwdZ_len {l : List Rc} {a n : Nat} : (fwd l zeroSh a n).length = 120 := by rw [fwd_length]; exact List.length_replicate ..
theorem pages_valid {l : List Rc} (hR : RIn l) {A : Nat} (hA : A ≤ 1000000) : validB (A : Int) (shRows (fwd l zeroSh 0 A)) = true := by
 refine valid_res (by omega) (by omega) fwdZ_len (fwd_ok hR zeroSh_ok) ?_
 have := fwd_stamps (l := l) zero_stamps (n := A)
 rwa [Nat.zero_add] at this
theorem gpc_piece {r : List AV} (h : GPc r) : PieceOk r := by
 obtain ⟨p, a, b, e, h1, h2, h3⟩ := h
 exact ⟨p, a, b, e, h1, h2, h3⟩
theorem with_step (G : Glob) {x : AV} {l : List Rc} (hx : Recs x l) (h40 : l.length ≤ 1000000) (hs : soundR l = true) {A n : Nat} (hn : A + n ≤ l.length) : Vi.Fn Tryz.prog G 31 [.agg [.int .i64 (A : Int), .list .loose (shRows (fwd l zeroSh 0 A))], lv (gatP (mk l A n) (fwd l zeroSh A n) 120), lv (stmP (fwd l zeroSh A n) 120), .int .i64 ((A + n : Nat) : Int)] (.tup [.agg [.int .i64 ((A + n : Nat) : Int), .list .loose (shRows (fwd l zeroSh 0 (A + n)))], .int .i64 0]) := by
 have hR := sound_in hx hs
 have hN := sound_n hs
 have h0 : ShOk (fwd l zeroSh 0 A) := fwd_ok hR zeroSh_ok
 have h1 := gatP_length (g := mk l A n) (sh := fwd l zeroSh A n) 120
 have h2 := stmP_length (sh := fwd l zeroSh A n) 120
 have h3 := t6d G (A : Int) ((A + n : Nat) : Int) (lv (gatP (mk l A n) (fwd l zeroSh A n) 120)) (lv (stmP (fwd l zeroSh A n) 120)) .loose (shRows (fwd l zeroSh 0 A)) rfl lv_isL lv_isL (by rw [shRows_len, fwdZ_len]; omega) (by rw [lv_rows]; omega) (by rw [lv_rows]; omega) (pageOk_rows h0) (by rw [lv_rows]; exact fun r hr => gpc_piece (gatP_mem (fwd_ok hR zeroSh_ok) 120 r hr)) (by rw [lv_rows]; exact stmP_int 120) (pages_valid hR (by omega)) (pgP (fwd l zeroSh A n) 120) (by rw [lv_rows]; exact gather_scan hR hN hn) (by rw [lv_rows]; exact gather_bad (by omega))
 rw [lv_rows, lv_rows, gather_lay hR hN hn h0 fwdZ_len] at h3
 have h4 := fwd_two (l := l) (sh := zeroSh) (a := 0) (m := A) (n := n)
 rw [Nat.zero_add] at h4
 rw [h4] at h3
 exact h3
theorem gather_step (G : Glob) {x : AV} {l : List Rc} (hx : Recs x l) (h40 : l.length ≤ 1000000) (hs : soundR l = true) {A B : Nat} (hAB : A ≤ B) (hB : B ≤ l.length) {xb : AV} (hxb : Recs xb (l.take B)) : Vi.Fn Tryz.prog G 27 [xb, .int .i64 (A : Int)] (.tup [lv (gatP (mk l A (B - A)) (fwd l zeroSh A (B - A)) 120), lv (stmP (fwd l zeroSh A (B - A)) 120), .int .i64 0]) := by
 have hlen : (l.take B).length = B := by rw [List.length_take]; omega
 have h1 := bGather G xb (l.take B) hxb (by omega) (A : Int)
 rw [gatherR, if_pos (sound_take hs B), hlen, if_neg (by omega), show ((A : Nat) : Int).toNat = A from rfl, fwd_take (by omega), show mk (l.take B) A (B - A) = mk l A (B - A) from funext fun p => funext fun c => mk_take (by omega)] at h1
 exact h1
theorem agree_calls (G : Glob) {x : AV} {l : List Rc} (hx : Recs x l) (h40 : l.length ≤ 1000000) (hs : soundR l = true) {A B : Nat} (hAB : A ≤ B) (hB : B ≤ l.length) {xa xb : AV} (hxa : Recs xa (l.take A)) (hxb : Recs xb (l.take B)) :
 ∃ PA PB PF gp gs gp2 gs2 gp3 gs3 : AV, (IsL PA ∧ IsL PB ∧ IsL PF ∧ IsL gp ∧ IsL gs ∧ IsL gp2 ∧ IsL gs2 ∧ IsL gp3 ∧ IsL gs3) ∧ (PA.isVal = true ∧ PB.isVal = true ∧ PF.isVal = true ∧ gp.isVal = true ∧ gs.isVal = true ∧ gp2.isVal = true ∧ gs2.isVal = true ∧ gp3.isVal = true ∧ gs3.isVal = true) ∧ ((lrows PF).length < 9223372036854775808 ∧ ∀ r ∈ lrows PF, PageOk r) ∧
   Vi.Fn Tryz.prog G 23 [x] (.tup [.agg [.int .i64 l.length, PF], .int .i64 0]) ∧ Vi.Fn Tryz.prog G 23 [xa] (.tup [.agg [.int .i64 (A : Int), PA], .int .i64 0]) ∧ Vi.Fn Tryz.prog G 20 [.agg [.int .i64 (A : Int), PA], x] (.tup [.agg [.int .i64 l.length, PF], .int .i64 0]) ∧
   Vi.Fn Tryz.prog G 27 [x, .int .i64 (A : Int)] (.tup [gp, gs, .int .i64 0]) ∧ Vi.Fn Tryz.prog G 31 [.agg [.int .i64 (A : Int), PA], gp, gs, .int .i64 l.length] (.tup [.agg [.int .i64 l.length, PF], .int .i64 0]) ∧
   Vi.Fn Tryz.prog G 27 [xb, .int .i64 (A : Int)] (.tup [gp2, gs2, .int .i64 0]) ∧ Vi.Fn Tryz.prog G 27 [x, .int .i64 (B : Int)] (.tup [gp3, gs3, .int .i64 0]) ∧
   Vi.Fn Tryz.prog G 31 [.agg [.int .i64 (A : Int), PA], gp2, gs2, .int .i64 (B : Int)] (.tup [.agg [.int .i64 (B : Int), PB], .int .i64 0]) ∧ Vi.Fn Tryz.prog G 31 [.agg [.int .i64 (B : Int), PB], gp3, gs3, .int .i64 l.length] (.tup [.agg [.int .i64 l.length, PF], .int .i64 0]) := by
 have hR := sound_in hx hs
 have hL : l.take l.length = l := List.take_length
 have hxl : Recs x (l.take l.length) := by rw [hL]; exact hx
 have okF : ShOk (fwd l zeroSh 0 l.length) := fwd_ok hR zeroSh_ok
 refine ⟨.list .loose (shRows (fwd l zeroSh 0 A)), .list .loose (shRows (fwd l zeroSh 0 B)), .list .loose (shRows (fwd l zeroSh 0 l.length)), lv (gatP (mk l A (l.length - A)) (fwd l zeroSh A (l.length - A)) 120), lv (stmP (fwd l zeroSh A (l.length - A)) 120), lv (gatP (mk l A (B - A)) (fwd l zeroSh A (B - A)) 120), lv (stmP (fwd l zeroSh A (B - A)) 120), lv (gatP (mk l B (l.length - B)) (fwd l zeroSh B (l.length - B)) 120), lv (stmP (fwd l zeroSh B (l.length - B)) 120),
  ⟨.inr ⟨_, _, rfl⟩, .inr ⟨_, _, rfl⟩, .inr ⟨_, _, rfl⟩, lv_isL, lv_isL, lv_isL, lv_isL, lv_isL, lv_isL⟩, ⟨rfl, rfl, rfl, lv_val, lv_val, lv_val, lv_val, lv_val, lv_val⟩, ⟨by show (shRows (fwd l zeroSh 0 l.length)).length < _; rw [shRows_len, fwdZ_len]; omega, pageOk_rows okF⟩, ?_, ?_, ?_, gather_step G hx h40 hs (by omega) (Nat.le_refl _) hxl, ?_, gather_step G hx h40 hs hAB hB hxb, gather_step G hx h40 hs hB (Nat.le_refl _) hxl, ?_, ?_⟩
 · have h1 := bCopy G x l hx h40
   rw [copyR, if_pos hs] at h1
   exact h1
 · have hlen : (l.take A).length = A := by rw [List.length_take]; omega
   have h1 := bCopy G xa (l.take A) hxa (by omega)
   rw [copyR, if_pos (sound_take hs A), hlen, fwd_take (by omega)] at h1
   exact h1
 · have h0 : ShOk (fwd l zeroSh 0 A) := fwd_ok hR zeroSh_ok
   have h1 := bRecover G (A : Int) (.list .loose (shRows (fwd l zeroSh 0 A))) (.inr ⟨_, _, rfl⟩) rfl (by show (shRows (fwd l zeroSh 0 A)).length < _; rw [shRows_len, fwdZ_len]; omega) (pageOk_rows h0) x l hx h40
   have h4 := fwd_two (l := l) (sh := zeroSh) (a := 0) (m := A) (n := l.length - A)
   rw [Nat.zero_add, show A + (l.length - A) = l.length by omega] at h4
   rw [show lrows (AV.list .loose (shRows (fwd l zeroSh 0 A))) = shRows (fwd l zeroSh 0 A) from rfl, recR, if_pos (pages_valid hR (by omega)), if_pos hs, if_neg (by omega), shOf_shRows, show ((A : Nat) : Int).toNat = A from rfl, h4] at h1
   exact h1
 · have h1 := with_step G hx h40 hs (A := A) (n := l.length - A) (by omega)
   rw [show A + (l.length - A) = l.length by omega] at h1
   exact h1
 · have h1 := with_step G hx h40 hs (A := A) (n := B - A) (by omega)
   rw [show A + (B - A) = B by omega] at h1
   exact h1
 have h1 := with_step G hx h40 hs (A := B) (n := l.length - B) (by omega)
 rw [show B + (l.length - B) = l.length by omega] at h1
 exact h1
theorem rem_nat {b : Int} (h : 0 ≤ b) {m : Nat} : ∃ A : Nat, Int.tmod b ((m : Int) + 1) = A ∧ A ≤ m := by
 have h1 : (0 : Int) < (m : Int) + 1 := by omega
 have h2 := Int.emod_nonneg b (show ((m : Int) + 1) ≠ 0 by omega)
 have h3 := Int.emod_lt_of_pos b h1
 refine ⟨(b % ((m : Int) + 1)).toNat, ?_, by omega⟩
 rw [Int.tmod_eq_emod_of_nonneg h]
 omega
set_option maxHeartbeats 8000000 in
theorem lawAgree (G : Glob) (x : AV) (l : List Rc) (hx : Recs x l) (b0 b1 : Int) (hb0 : 0 ≤ b0 ∧ b0 < 256) (hb1 : 0 ≤ b1 ∧ b1 < 256) : Vi.Fn Tryz.prog G 7 [x, .agg [.int .u8 b0, .int .u8 b1]] (.bool true) := by
 have hL := hx.isL
 have hlx := hx.len
 have hxl : (lrows x).length = l.length := by rw [hx.rows]; simp
 refine fn_body (fun _ => .iso) Tryz.func7 rfl ?_
 refine vc_norm (env' := (_::_::_::_::_::_::_::_::_::_::_::_::_::_::_::_::_::_::_::_::_::_::_::_::_::_::_::_::_::_::_::_::_::_::_::_::_::_::_::_::_::_::_::_::_::_::_::_::_::_::_::_::_::_::_::_::_::_::_::_::_::_::_::_::_::_::_::_::_::_::_::_::_::_::_::_::_::_::_::_::_::_::_::_::_::_::_::_::_::_::_::_::_::_::_::_::_::_::_::_::_::_::_::_::_::_::_::_::_::_::_::_::_::_::_::_::_::_::_::_::_::_::_::_::_::_::_::_::_::_::_::_::_::_::_::_::_::_::_::_::_::_::_::_::_::_::_::_::_::_::_::_::_::_::_::_::_::_::[])) (H' := []) rfl rfl ?_
 refine vs (wr ?_)
 refine w_opH (v := .ptr 0 0 0) (env' := _) (H2 := [.arr 57 2 [[_, _]]]) rfl rfl rfl rfl (fun _ h => h) (v158 rfl ?_)
 refine wN rfl rfl rfl (v158 rfl ?_)
 refine we rfl (vs (vs (wr ?_)))
 refine wN rfl rfl rfl (v158 rfl ?_)
 refine w_callI (env' := _) rfl rfl rfl (by kernel_rfl) rfl (by repeat' first | exact IsL.lend ‹_› | exact IsL.lend0 ‹_› | refine mapL_cons ?_ ?_ | refine lend_agg ?_ | rfl) (sLarge G x l hx) rfl (v158 rfl ?_)
 refine wN rfl rfl rfl (v158 rfl ?_)
 refine w_split 19 rfl (fun hg19 => ?_) (fun hg19 => ?_)
 ·
  refine v158 rfl ?_
  iterate 3 refine wS (wanted_f 19 (by kernel_rfl) rfl) (v158 rfl ?_)
  refine wN rfl rfl rfl (v158 rfl ?_)
  refine we rfl ?_
  refine vc_true rfl ?_
  refine vs (wr ?_)
  refine w_callI (env' := _) rfl rfl rfl (by kernel_rfl) rfl (by repeat' first | exact IsL.lend ‹_› | exact IsL.lend0 ‹_› | refine mapL_cons ?_ ?_ | refine lend_agg ?_ | rfl) (zFirst G) rfl (v158 rfl ?_)
  refine wN rfl rfl rfl (v158 rfl ?_)
  refine we rfl (vc_ret (r_then (r_fn rfl ?_)))
  rfl
 have h40 : l.length ≤ 1000000 := by
  have := (Bool.or_eq_false_iff.1 (show ((List.range l.length).any (largeAt l) || decide ((l.length : Int) > 40)) = false from hg19)).2
  have := of_decide_eq_false this
  omega
 refine v158 rfl ?_
 refine wN (wanted_t 19 (by kernel_rfl) rfl) rfl rfl (v158 rfl ?_)
 refine w_callI (env' := _) (wanted_t 19 (by kernel_rfl) rfl) rfl rfl (by kernel_rfl) rfl (by repeat' first | exact IsL.lend ‹_› | exact IsL.lend0 ‹_› | refine mapL_cons ?_ ?_ | refine lend_agg ?_ | rfl) (sSoundR G x l hx h40) rfl (v158 rfl ?_)
 refine wN (wanted_t 19 (by kernel_rfl) rfl) rfl rfl (v158 rfl ?_)
 refine wN rfl rfl rfl (v158 rfl ?_)
 refine we rfl ?_
 refine vc_cond rfl (fun hc23 => ?_) (fun hc23 => ?_)
 ·
  refine vs (wr ?_)
  refine w_callI (env' := _) rfl rfl rfl (by kernel_rfl) rfl (by repeat' first | exact IsL.lend ‹_› | exact IsL.lend0 ‹_› | refine mapL_cons ?_ ?_ | refine lend_agg ?_ | rfl) (zFirst G) rfl (v158 rfl ?_)
  refine wN rfl rfl rfl (v158 rfl ?_)
  refine we rfl (vc_ret (r_then (r_fn rfl ?_)))
  rfl
 have hs : soundR l = true := by simpa using hc23
 obtain ⟨A, hA, hAl⟩ := rem_nat hb0.1 (m := (lrows x).length)
 obtain ⟨C, hC, hCl⟩ := rem_nat hb1.1 (m := (lrows x).length - A)
 obtain ⟨B, hB⟩ : ∃ B, B = A + C := ⟨_, rfl⟩
 obtain ⟨xa, hsa, hxa⟩ := slice_recs hx (A := A) (by omega)
 obtain ⟨xb, hsb, hxb⟩ := slice_recs hx (A := B) (by omega)
 have hLa := hxa.isL
 have hLb := hxb.isL
 obtain ⟨PA, PB, PF, gp, gs, gp2, gs2, gp3, gs3, ⟨i1, i2, i3, i4, i5, i6, i7, i8, i9⟩, ⟨v1, v2, v3, v4, v5, v6, v7, v8, v9⟩, ⟨j1, j2⟩, hc1, hc2, hc3, hc4, hc5, hc6, hc7, hc8, hc9⟩ := agree_calls G hx h40 hs (show A ≤ B by omega) (show B ≤ l.length by omega) hxa hxb
 refine vc_skip (n_then (vs (wr ?_)))
 refine wN (v := .ptr 0 0 0) rfl (g_indexA (l := 0) (i := 0) (k := 0) (kk := .i64) (n := 0) el57 (by decide) (by decide)) rfl (v158 rfl ?_)
 refine wN (v := .int .u8 b0) rfl (rfl) rfl (v158 rfl ?_)
 refine wN (v := .int .i64 b0) rfl (int_eq (i64_small (by omega) (by omega))) rfl (v158 rfl ?_)
 refine wN rfl rfl rfl (v158 rfl ?_)
 first | refine wN rfl rfl rfl (v158 rfl ?_) | refine x_len rfl rfl ‹_› Tryz.underlying43 rfl (v158 rfl ?_)
 refine wN (v := .int .i64 (((lrows x).length : Int) + 1)) rfl (int_eq (i64_small (by omega) (by omega))) rfl (v158 rfl ?_)
 refine wN (v := .int .i64 (A : Int)) rfl ((show (if ((lrows x).length : Int) + 1 = 0 then none else some (AV.int .i64 (Int.tmod b0 (((lrows x).length : Int) + 1)))).map (·, _) = some (AV.int .i64 (A : Int), _) by rw [if_neg (by omega), hA]; rfl)) rfl (v158 rfl ?_)
 refine wN rfl rfl rfl (v158 rfl ?_)
 refine we rfl (vs (wr ?_))
 refine wN rfl rfl rfl (v158 rfl ?_)
 refine wN (v := .ptr 0 0 1) rfl (g_indexA (l := 0) (i := 0) (k := 0) (kk := .i64) (n := 1) el57 (by decide) (by decide)) rfl (v158 rfl ?_)
 refine wN (v := .int .u8 b1) rfl (rfl) rfl (v158 rfl ?_)
 refine wN (v := .int .i64 b1) rfl (int_eq (i64_small (by omega) (by omega))) rfl (v158 rfl ?_)
 refine wN rfl rfl rfl (v158 rfl ?_)
 first | refine wN rfl rfl rfl (v158 rfl ?_) | refine x_len rfl rfl ‹_› Tryz.underlying43 rfl (v158 rfl ?_)
 refine wN (v := .int .i64 (((lrows x).length : Int) + 1)) rfl (int_eq (i64_small (by omega) (by omega))) rfl (v158 rfl ?_)
 refine wN rfl rfl rfl (v158 rfl ?_)
 refine wN (v := .int .i64 ((((lrows x).length - A : Nat) : Int) + 1)) rfl ((by rw [show ((((lrows x).length - A : Nat) : Int) + 1) = ((lrows x).length : Int) + 1 - (A : Int) by omega]; exact int_eq (i64_small (by omega) (by omega)))) rfl (v158 rfl ?_)
 refine wN (v := .int .i64 (C : Int)) rfl ((show (if (((lrows x).length - A : Nat) : Int) + 1 = 0 then none else some (AV.int .i64 (Int.tmod b1 ((((lrows x).length - A : Nat) : Int) + 1)))).map (·, _) = some (AV.int .i64 (C : Int), _) by rw [if_neg (by omega), hC]; rfl)) rfl (v158 rfl ?_)
 refine wN (v := .int .i64 (B : Int)) rfl ((by rw [show (B : Int) = (A : Int) + (C : Int) by omega]; exact int_eq (i64_small (by omega) (by omega)))) rfl (v158 rfl ?_)
 refine wN rfl rfl rfl (v158 rfl ?_)
 refine we rfl (vs (wr ?_))
 refine wN rfl rfl rfl (v158 rfl ?_)
 refine w_callI (env' := _) rfl rfl rfl (by kernel_rfl) rfl (by repeat' first | exact IsL.lend ‹_› | exact IsL.lend0 ‹_› | refine mapL_cons ?_ ?_ | refine lend_agg ?_ | rfl) (hc1) rfl (v158 rfl ?_)
 iterate 3 refine wN rfl rfl rfl (v158 rfl ?_)
 refine w_opH (v := .ptr 1 0 0) (env' := _) (H2 := [.arr 57 2 [[_, _]], .arr 42 2 [[_, _]]]) rfl rfl rfl rfl (fun _ h => h) (v158 rfl ?_)
 refine w_op0N (H2 := [.arr 57 2 [[_, _]], .arr 42 2 [[_, _]]]) rfl rfl rfl (fun _ h => h) ?_
 refine wN rfl rfl rfl (v158 rfl ?_)
 refine we rfl (vs (wr ?_))
 iterate 2 refine wN rfl rfl rfl (v158 rfl ?_)
 refine wN (v := xa) rfl (hsa _) rfl (v158 rfl ?_)
 refine w_callI (env' := _) rfl rfl rfl (by kernel_rfl) rfl (by repeat' first | exact IsL.lend ‹_› | exact IsL.lend0 ‹_› | refine mapL_cons ?_ ?_ | refine lend_agg ?_ | rfl) (hc2) rfl (v158 rfl ?_)
 iterate 3 refine wN rfl rfl rfl (v158 rfl ?_)
 refine w_opH (v := .ptr 2 0 0) (env' := _) (H2 := [.arr 57 2 [[_, _]], .arr 42 2 [[_, _]], .arr 42 2 [[_, _]]]) rfl rfl rfl rfl (fun _ h => h) (v158 rfl ?_)
 refine w_op0N (H2 := [.arr 57 2 [[_, _]], .arr 42 2 [[_, _]], .arr 42 2 [[_, _]]]) rfl rfl rfl (fun _ h => h) ?_
 refine wN rfl rfl rfl (v158 rfl ?_)
 refine we rfl (vs (wr ?_))
 refine wN (v := .agg [_, _]) rfl rfl rfl (v158 rfl ?_)
 refine wN rfl rfl rfl (v158 rfl ?_)
 refine w_callI (env' := _) rfl rfl rfl (by kernel_rfl) rfl (by repeat' first | exact IsL.lend ‹_› | exact IsL.lend0 ‹_› | refine mapL_cons ?_ ?_ | refine lend_agg ?_ | rfl) (hc3) rfl (v158 rfl ?_)
 iterate 3 refine wN rfl rfl rfl (v158 rfl ?_)
 refine w_opH (v := .ptr 3 0 0) (env' := _) (H2 := [.arr 57 2 [[_, _]], .arr 42 2 [[_, _]], .arr 42 2 [[_, _]], .arr 42 2 [[_, _]]]) rfl rfl rfl rfl (fun _ h => h) (v158 rfl ?_)
 refine w_op0N (H2 := [.arr 57 2 [[_, _]], .arr 42 2 [[_, _]], .arr 42 2 [[_, _]], .arr 42 2 [[_, _]]]) rfl rfl rfl (fun _ h => h) ?_
 refine wN rfl rfl rfl (v158 rfl ?_)
 refine we rfl (vs (vs (wr ?_)))
 iterate 3 refine wN rfl rfl rfl (v158 rfl ?_)
 iterate 2 refine wN (wanted_t 63 (by kernel_rfl) rfl) rfl rfl (v158 rfl ?_)
 iterate 2 refine wN rfl rfl rfl (v158 rfl ?_)
 iterate 2 refine wN (wanted_t 67 (by kernel_rfl) rfl) rfl rfl (v158 rfl ?_)
 iterate 2 refine wN rfl rfl rfl (v158 rfl ?_)
 iterate 2 refine wN (v := .agg [_, _]) (wanted_t 71 (by kernel_rfl) rfl) rfl rfl (v158 rfl ?_)
 refine w_callI (env' := _) (wanted_t 71 (by kernel_rfl) rfl) rfl rfl (by kernel_rfl) rfl (by repeat' first | exact IsL.lend ‹_› | exact IsL.lend0 ‹_› | refine mapL_cons ?_ ?_ | refine lend_agg ?_ | rfl) (t8 G l.length PF i3 j1 j2) rfl (v158 rfl ?_)
 refine wN (wanted_t 71 (by kernel_rfl) rfl) rfl rfl (v158 rfl ?_)
 refine wN rfl rfl rfl (v158 rfl ?_)
 refine we rfl ?_
 refine vc_false rfl ?_
 refine vc_skip (n_then (vs (wr ?_)))
 iterate 2 refine wN rfl rfl rfl (v158 rfl ?_)
 refine w_callI (env' := _) rfl rfl rfl (by kernel_rfl) rfl (by repeat' first | exact IsL.lend ‹_› | exact IsL.lend0 ‹_› | refine mapL_cons ?_ ?_ | refine lend_agg ?_ | rfl) (hc4) rfl (v158 rfl ?_)
 iterate 7 refine wN rfl rfl rfl (v158 rfl ?_)
 refine we rfl (vs (wr ?_))
 refine wN (v := .agg [_, _]) rfl rfl rfl (v158 rfl ?_)
 iterate 3 refine wN rfl rfl rfl (v158 rfl ?_)
 refine wN (v := .int .i64 l.length) rfl ((by have h9 := fun H : Hp => vlen_isL (H := H) hL Tryz.underlying43; simp only [hxl] at h9; exact h9 _)) rfl (v158 rfl ?_)
 refine w_callI (env' := _) rfl rfl rfl (by kernel_rfl) rfl (by repeat' first | exact IsL.lend ‹_› | exact IsL.lend0 ‹_› | refine mapL_cons ?_ ?_ | refine lend_agg ?_ | rfl) (hc5) rfl (v158 rfl ?_)
 iterate 3 refine wN rfl rfl rfl (v158 rfl ?_)
 refine w_op0N (H2 := [.arr 57 2 [[_, _]], .arr 42 2 [[_, _]], .arr 42 2 [[_, _]], .arr 42 2 [[_, _]]]) rfl rfl rfl (fun _ h => h) ?_
 refine wN rfl rfl rfl (v158 rfl ?_)
 refine we rfl (vs (vs (wr ?_)))
 iterate 3 refine wN rfl rfl rfl (v158 rfl ?_)
 iterate 2 refine wN (wanted_t 95 (by kernel_rfl) rfl) rfl rfl (v158 rfl ?_)
 iterate 2 refine wN rfl rfl rfl (v158 rfl ?_)
 iterate 2 refine wN (v := .agg [_, _]) (wanted_t 99 (by kernel_rfl) rfl) rfl rfl (v158 rfl ?_)
 refine w_callI (env' := _) (wanted_t 99 (by kernel_rfl) rfl) rfl rfl (by kernel_rfl) rfl (by repeat' first | exact IsL.lend ‹_› | exact IsL.lend0 ‹_› | refine mapL_cons ?_ ?_ | refine lend_agg ?_ | rfl) (t8 G l.length PF i3 j1 j2) rfl (v158 rfl ?_)
 refine wN (wanted_t 99 (by kernel_rfl) rfl) rfl rfl (v158 rfl ?_)
 refine wN rfl rfl rfl (v158 rfl ?_)
 refine we rfl ?_
 refine vc_false rfl ?_
 refine vc_skip (n_then (vs (wr ?_)))
 iterate 2 refine wN rfl rfl rfl (v158 rfl ?_)
 refine wN (v := xb) rfl (hsb _) rfl (v158 rfl ?_)
 refine wN rfl rfl rfl (v158 rfl ?_)
 refine w_callI (env' := _) rfl rfl rfl (by kernel_rfl) rfl (by repeat' first | exact IsL.lend ‹_› | exact IsL.lend0 ‹_› | refine mapL_cons ?_ ?_ | refine lend_agg ?_ | rfl) (hc6) rfl (v158 rfl ?_)
 iterate 7 refine wN rfl rfl rfl (v158 rfl ?_)
 refine we rfl (vs (wr ?_))
 iterate 2 refine wN rfl rfl rfl (v158 rfl ?_)
 refine w_callI (env' := _) rfl rfl rfl (by kernel_rfl) rfl (by repeat' first | exact IsL.lend ‹_› | exact IsL.lend0 ‹_› | refine mapL_cons ?_ ?_ | refine lend_agg ?_ | rfl) (hc7) rfl (v158 rfl ?_)
 iterate 7 refine wN rfl rfl rfl (v158 rfl ?_)
 refine we rfl (vs (wr ?_))
 refine wN (v := .agg [_, _]) rfl rfl rfl (v158 rfl ?_)
 iterate 3 refine wN rfl rfl rfl (v158 rfl ?_)
 refine w_callI (env' := _) rfl rfl rfl (by kernel_rfl) rfl (by repeat' first | exact IsL.lend ‹_› | exact IsL.lend0 ‹_› | refine mapL_cons ?_ ?_ | refine lend_agg ?_ | rfl) (hc8) rfl (v158 rfl ?_)
 iterate 3 refine wN rfl rfl rfl (v158 rfl ?_)
 refine w_op0N (H2 := [.arr 57 2 [[_, _]], .arr 42 2 [[_, _]], .arr 42 2 [[_, _]], .arr 42 2 [[_, _]]]) rfl rfl rfl (fun _ h => h) ?_
 refine wN rfl rfl rfl (v158 rfl ?_)
 refine we rfl (vs (vs (wr ?_)))
 iterate 3 refine wN rfl rfl rfl (v158 rfl ?_)
 iterate 2 refine wN (wanted_t 131 (by kernel_rfl) rfl) rfl rfl (v158 rfl ?_)
 iterate 2 refine wN rfl rfl rfl (v158 rfl ?_)
 iterate 2 refine wN (wanted_t 135 (by kernel_rfl) rfl) rfl rfl (v158 rfl ?_)
 refine wN rfl rfl rfl (v158 rfl ?_)
 refine we rfl ?_
 refine vc_false rfl ?_
 refine vc_skip (n_then (vs (wr ?_)))
 refine wN (v := .agg [_, _]) rfl rfl rfl (v158 rfl ?_)
 iterate 3 refine wN rfl rfl rfl (v158 rfl ?_)
 refine wN (v := .int .i64 l.length) rfl ((by have h9 := fun H : Hp => vlen_isL (H := H) hL Tryz.underlying43; simp only [hxl] at h9; exact h9 _)) rfl (v158 rfl ?_)
 refine w_callI (env' := _) rfl rfl rfl (by kernel_rfl) rfl (by repeat' first | exact IsL.lend ‹_› | exact IsL.lend0 ‹_› | refine mapL_cons ?_ ?_ | refine lend_agg ?_ | rfl) (hc9) rfl (v158 rfl ?_)
 iterate 3 refine wN rfl rfl rfl (v158 rfl ?_)
 refine w_op0N (H2 := [.arr 57 2 [[_, _]], .arr 42 2 [[_, _]], .arr 42 2 [[_, _]], .arr 42 2 [[_, _]]]) rfl rfl rfl (fun _ h => h) ?_
 refine wN rfl rfl rfl (v158 rfl ?_)
 refine we rfl (vs (wr ?_))
 iterate 3 refine wN rfl rfl rfl (v158 rfl ?_)
 iterate 2 refine wN (v := .agg [_, _]) (wanted_t 150 (by kernel_rfl) rfl) rfl rfl (v158 rfl ?_)
 refine w_callI (env' := _) (wanted_t 150 (by kernel_rfl) rfl) rfl rfl (by kernel_rfl) rfl (by repeat' first | exact IsL.lend ‹_› | exact IsL.lend0 ‹_› | refine mapL_cons ?_ ?_ | refine lend_agg ?_ | rfl) (t8 G l.length PF i3 j1 j2) rfl (v158 rfl ?_)
 iterate 2 refine wN rfl rfl rfl (v158 rfl ?_)
 refine w_callI (env' := _) (wanted_t 155 (by kernel_rfl) rfl) rfl rfl (by kernel_rfl) rfl (by repeat' first | exact IsL.lend ‹_› | exact IsL.lend0 ‹_› | refine mapL_cons ?_ ?_ | refine lend_agg ?_ | rfl) (zFirst G) rfl (v158 rfl ?_)
 iterate 2 refine wN rfl rfl rfl (v158 rfl ?_)
 refine we rfl (vc_ret (r_fn rfl ?_))
 rfl
end Lay
end Go.Vi
namespace Go.Vi
open Go Go.Vi Go.Proofs
namespace Lay
section
variable {P : Program} {f : Nat} {t : TypeId} {xs : List AV}
theorem shp_int {k : IntKind} (hu : P.underlying t = some (.int k)) (h : Shp P f t xs) : ∃ n, xs = [.int k n] := by
 cases f with
 | zero => exact h.elim
 | succ f =>
   unfold Shp at h
   rw [hu] at h
   obtain ⟨n, h1, _⟩ := h
   exact ⟨n, h1⟩
theorem shp_str (hu : P.underlying t = some .string) (h : Shp P f t xs) : ∃ s : ByteArray, xs = [.str s] ∧ s.size < 9223372036854775808 := by
 cases f with
 | zero => exact h.elim
 | succ f =>
   unfold Shp at h
   rw [hu] at h
   obtain ⟨s, h1, h2⟩ := h
   exact ⟨s, h1, by simp only [maxLen] at h2; omega⟩
theorem shp_slice {e : TypeId} (hu : P.underlying t = some (.slice e)) (h : Shp P (f + 1) t xs) : ∃ x, xs = [x] ∧ IsL x ∧ x.isVal = true ∧ (lrows x).length < 9223372036854775808 ∧ ∀ r ∈ lrows x, Shp P f e r := by
 unfold Shp at h
 rw [hu] at h
 rcases h with rfl | ⟨rows, rfl, h1, h2⟩
 · exact ⟨_, rfl, .inl rfl, rfl, by simp [lrows], fun r hr => by simp [lrows] at hr⟩
 refine ⟨_, rfl, .inr ⟨_, _, rfl⟩, rfl, ?_, fun r hr => (h2 r hr).2⟩
 show rows.length < _
 simp only [maxLen] at h1
 omega
theorem shp_struct {fs : Array Field} (hu : P.underlying t = some (.struct fs)) (h : Shp P (f + 1) t xs) : fieldsS P (Shp P f) fs.toList xs := by
 unfold Shp at h
 rw [hu] at h
 exact h
end
theorem fs_cons {P : Program} {R : TypeId → List AV → Prop} {x : Field} {r : List Field} {xs : List AV} (h : fieldsS P R (x::r) xs) : ∃ p q, xs = p ++ q ∧ R x.type p ∧ fieldsS P R r q := by
 obtain ⟨p, q, h1, _, h2, h3⟩ := h
 exact ⟨p, q, h1, h2, h3⟩
theorem fs_nil {P : Program} {R : TypeId → List AV → Prop} {xs : List AV} (h : fieldsS P R [] xs) : xs = [] := h
theorem rows_of {α : Type} {enc : α → List AV} {good : α → Prop} : ∀ {rows : List (List AV)}, (∀ r ∈ rows, ∃ a, r = enc a ∧ good a) → ∃ l : List α, rows = l.map enc ∧ ∀ a ∈ l, good a
 | [], _ => ⟨[], rfl, fun a h => by cases h⟩
 | r::rest, h => by
   obtain ⟨a, rfl, ha⟩ := h r (by simp)
   obtain ⟨l, rfl, hl⟩ := rows_of (rows := rest) (fun r hr => h r (by simp [hr]))
   refine ⟨a::l, rfl, fun x hx => ?_⟩
   rcases List.mem_cons.1 hx with rfl | hx
   · exact ha
   exact hl x hx
theorem byt_of {f : Nat} {xs : List AV} (h : Shp Tryz.prog (f + 1) 68 xs) : ∃ b, xs = [b] ∧ Byt b ∧ b.isVal = true := by
 obtain ⟨x, h1, h2, h3, h4, h5⟩ := shp_slice Tryz.underlying68 h
 exact ⟨x, h1, ⟨h2, h4, fun q hq => shp_int Tryz.underlying5 (h5 q hq)⟩, h3⟩
theorem open_of {f : Nat} {xs : List AV} (h : Shp Tryz.prog (f + 1) 140 xs) : ∃ u : Ro, xs = u.row ∧ u.ready.size < 9223372036854775808 := by
 obtain ⟨p1, q1, rfl, h1, h⟩ := fs_cons (shp_struct Tryz.underlying140 h)
 obtain ⟨p2, q2, rfl, h2, h⟩ := fs_cons h
 obtain ⟨p3, q3, rfl, h3, h⟩ := fs_cons h
 obtain rfl := fs_nil h
 obtain ⟨a, rfl⟩ := shp_int Tryz.underlying3 h1
 obtain ⟨b, rfl⟩ := shp_int Tryz.underlying3 h2
 obtain ⟨c, rfl, hc⟩ := shp_str Tryz.underlying9 h3
 exact ⟨⟨a, b, c⟩, rfl, hc⟩
theorem rec_of {f : Nat} {xs : List AV} (h : Shp Tryz.prog (f + 3) 93 xs) : ∃ r : Rc, xs = r.row ∧ r.Ok := by
 obtain ⟨p1, q1, rfl, h1, h⟩ := fs_cons (shp_struct Tryz.underlying93 h)
 obtain ⟨p2, q2, rfl, h2, h⟩ := fs_cons h
 obtain ⟨p3, q3, rfl, h3, h⟩ := fs_cons h
 obtain ⟨p4, q4, rfl, h4, h⟩ := fs_cons h
 obtain ⟨p5, q5, rfl, h5, h⟩ := fs_cons h
 obtain ⟨p6, q6, rfl, h6, h⟩ := fs_cons h
 obtain ⟨p7, q7, rfl, h7, h⟩ := fs_cons h
 obtain ⟨p8, q8, rfl, h8, h⟩ := fs_cons h
 obtain ⟨p9, q9, rfl, h9, h⟩ := fs_cons h
 obtain ⟨p10, q10, rfl, h10, h⟩ := fs_cons h
 obtain rfl := fs_nil h
 obtain ⟨a1, rfl⟩ := shp_int Tryz.underlying3 h1
 obtain ⟨a2, rfl⟩ := shp_int Tryz.underlying3 h2
 obtain ⟨a3, rfl⟩ := shp_int Tryz.underlying3 h3
 obtain ⟨a4, rfl⟩ := shp_int Tryz.underlying3 h4
 obtain ⟨b5, rfl, c5, d5⟩ := byt_of h5
 obtain ⟨b6, rfl, c6, d6⟩ := byt_of h6
 obtain ⟨a7, rfl⟩ := shp_int Tryz.underlying3 h7
 obtain ⟨a8, rfl⟩ := shp_int Tryz.underlying3 h8
 obtain ⟨a9, rfl, e9⟩ := shp_str Tryz.underlying9 h9
 obtain ⟨x, rfl, k1, k2, k3, k4⟩ := shp_slice (f := f + 1) Tryz.underlying91 h10
 obtain ⟨l, e1, g1⟩ := rows_of (enc := Ro.row) (good := fun u => u.ready.size < 9223372036854775808) (fun r hr => open_of (k4 r hr))
 exact ⟨⟨a1, a2, a3, a4, b5, b6, a7, a8, a9, x, l⟩, rfl, ⟨c5, c6, k1, e1, d5, d6, k2, by rw [e1] at k3; simpa using k3, e9, g1⟩⟩
theorem recs_of {a : AV} (h : ArgIs Tryz.prog 8 43 a) : ∃ l, Recs a l := by
 obtain ⟨f, xs, hf, h1, h2, h3⟩ := h
 obtain ⟨f, rfl⟩ : ∃ g, f = g + 6 := ⟨f - 6, by omega⟩
 obtain ⟨x, rfl, c1, c2, c3, c4⟩ := shp_slice (f := f + 5) Tryz.underlying43 h1
 obtain ⟨l, e1, g1⟩ := rows_of (enc := Rc.row) (good := Rc.Ok) (fun r hr => rec_of (f := f + 2) (c4 r hr))
 simp only [argOf, Tryz.underlying43] at h2
 cases h2
 exact ⟨l, c1, c2, e1, g1, by rw [e1] at c3; simpa using c3⟩
end Lay
end Go.Vi
namespace Go.Vi
open Go Go.Vi Go.Proofs
namespace Lay
theorem shp_u8 {f : Nat} {xs : List AV} (h : Shp Tryz.prog f 5 xs) : ∃ n, xs = [.int .u8 n] ∧ 0 ≤ n ∧ n < 256 := by
 cases f with
 | zero => exact h.elim
 | succ f =>
   unfold Shp at h
   rw [Tryz.underlying5] at h
   obtain ⟨n, h1, h2⟩ := h
   refine ⟨n, h1, ?_⟩
   simp only [Lit.wf, IntKind.min, IntKind.max, IntKind.signed, IntKind.bits, Bool.and_eq_true, decide_eq_true_eq, if_true, Bool.false_eq_true, if_false] at h2
   omega
theorem pair_of {a : AV} (h : ArgIs Tryz.prog 8 57 a) : ∃ b0 b1, a = .agg [.int .u8 b0, .int .u8 b1] ∧ (0 ≤ b0 ∧ b0 < 256) ∧ (0 ≤ b1 ∧ b1 < 256) := by
 obtain ⟨f, xs, hf, h1, h2, h3⟩ := h
 obtain ⟨f, rfl⟩ : ∃ g, f = g + 6 := ⟨f - 6, by omega⟩
 have h4 : timesS Tryz.prog (Shp Tryz.prog (f + 5)) 5 2 xs := by
  unfold Shp at h1
  rw [Tryz.underlying57] at h1
  exact h1
 obtain ⟨p1, q1, rfl, l1, s1, h⟩ := h4
 obtain ⟨p2, q2, rfl, l2, s2, h⟩ := h
 obtain rfl : q2 = [] := h
 obtain ⟨b0, rfl, w0⟩ := shp_u8 s1
 obtain ⟨b1, rfl, w1⟩ := shp_u8 s2
 simp only [argOf, Tryz.underlying57] at h2
 cases h2
 exact ⟨b0, b1, rfl, w0, w1⟩
end Lay
end Go.Vi
