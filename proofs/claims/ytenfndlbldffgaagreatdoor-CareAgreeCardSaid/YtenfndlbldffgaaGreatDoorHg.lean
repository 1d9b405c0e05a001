/- Part of the proofs of the tied cards of Care: the texts CsB CsN CsQ CsI CsR CyA CyB CyC CyD CyE CyF. Conditions: none of its own. -/
import Derived.Test.YtenfndlbldffgaaGreatDoorHe
import Derived.Test.YtenfndlbldffgaaGreatDoorHf
import Derived.Test.YtenfndlbldffgaaGreatDoorHd
set_option autoImplicit false
set_option linter.unusedVariables false
set_option linter.unusedSimpArgs false
set_option maxRecDepth 100000
namespace Go.Vi
open Go Go.Vi Go.Proofs
attribute [local irreducible] vops vopsD vc
set_option maxHeartbeats 4000000 in
theorem sIsNum (G : Glob) (n : Int) : Vi.Fn Tryz.prog G 149 [.int .i64 n] (.bool (isNum n)) := by
 refine fn_body (fun _ => .iso) Tryz.func149 rfl ?_
 refine vc_norm (env' := [_, _, _, _, _, _, _, _, _]) (H' := []) rfl rfl ?_
 refine vs (wr ?_)
 refine wN rfl rfl rfl (v9 rfl ?_)
 refine we rfl (vs (wr ?_))
 iterate 3 refine wN rfl rfl rfl (v9 rfl ?_)
 apply w_and 3 5 (fun b => (rnone 5 ++ ([some .undef, some .undef, some .undef, some (.bool b)]))) rfl
 ·
  intro hg5 hY5
  refine v9 rfl ?_
  iterate 2 refine wN (wanted_t 5 (by kernel_rfl) rfl) rfl rfl (v9 rfl ?_)
  refine wN rfl rfl rfl (v9 rfl ?_)
  refine hY5 _ ?_
  repeat' first | exact trivial | refine ⟨.inr rfl, ?_⟩ | refine ⟨.inl rfl, ?_⟩ | fail
 ·
  intro hg5 hY5
  refine v9 rfl ?_
  iterate 2 refine wS (wanted_f 5 (by kernel_rfl) rfl) (v9 rfl ?_)
  refine wN rfl rfl rfl (v9 rfl ?_)
  refine hY5 _ ?_
  repeat' first | exact trivial | refine ⟨.inr rfl, ?_⟩ | refine ⟨.inl rfl, ?_⟩ | fail
 refine v9 rfl ?_
 refine wN rfl rfl rfl (v9 rfl ?_)
 refine we rfl (vc_ret (r_fn rfl ?_))
 rfl
set_option maxHeartbeats 4000000 in
theorem sIsPlaceR (G : Glob) (page pos n : Int) : Vi.Fn Tryz.prog G 150 [.int .i64 page, .int .i64 pos, .int .i64 n] (.bool (isPlaceR page pos n)) := by
 refine fn_body (fun _ => .iso) Tryz.func150 rfl ?_
 refine vc_norm (env' := (_ :: _ :: _ :: _ :: _ :: _ :: _ :: _ :: _ :: _ :: _ :: _ :: _ :: _ :: _ :: _ :: _ :: _ :: _ :: _ :: _ :: _ :: _ :: _ :: _ :: _ :: _ :: _ :: _ :: _ :: _ :: [])) (H' := []) rfl rfl ?_
 refine vs (wr ?_)
 refine wN rfl rfl rfl (v31 rfl ?_)
 refine we rfl (vs (wr ?_))
 iterate 3 refine wN rfl rfl rfl (v31 rfl ?_)
 apply w_and 3 9 (fun b => (rnone 9 ++ ([some .undef, some .undef, some .undef, some (.bool b)] ++ (rnone 18)))) rfl
 ·
  intro hg9 hY9
  refine v31 rfl ?_
  iterate 2 refine wN (wanted_t 9 (by kernel_rfl) rfl) rfl rfl (v31 rfl ?_)
  refine wN rfl rfl rfl (v31 rfl ?_)
  refine hY9 _ ?_
  repeat' first | exact trivial | refine ⟨.inr rfl, ?_⟩ | refine ⟨.inl rfl, ?_⟩ | fail
 ·
  intro hg9 hY9
  refine v31 rfl ?_
  iterate 2 refine wS (wanted_f 9 (by kernel_rfl) rfl) (v31 rfl ?_)
  refine wN rfl rfl rfl (v31 rfl ?_)
  refine hY9 _ ?_
  repeat' first | exact trivial | refine ⟨.inr rfl, ?_⟩ | refine ⟨.inl rfl, ?_⟩ | fail
 refine v31 rfl ?_
 refine wN rfl rfl rfl (v31 rfl ?_)
 apply w_and 3 13 (fun b => (rnone 13 ++ ([some .undef, some .undef, some .undef, some (.bool b)] ++ (rnone 14)))) rfl
 ·
  intro hg13 hY13
  refine v31 rfl ?_
  iterate 2 refine wN (wanted_t 13 (by kernel_rfl) rfl) rfl rfl (v31 rfl ?_)
  refine wN rfl rfl rfl (v31 rfl ?_)
  refine hY13 _ ?_
  repeat' first | exact trivial | refine ⟨.inr rfl, ?_⟩ | refine ⟨.inl rfl, ?_⟩ | fail
 ·
  intro hg13 hY13
  refine v31 rfl ?_
  iterate 2 refine wS (wanted_f 13 (by kernel_rfl) rfl) (v31 rfl ?_)
  refine wN rfl rfl rfl (v31 rfl ?_)
  refine hY13 _ ?_
  repeat' first | exact trivial | refine ⟨.inr rfl, ?_⟩ | refine ⟨.inl rfl, ?_⟩ | fail
 refine v31 rfl ?_
 refine wN rfl rfl rfl (v31 rfl ?_)
 apply w_and 3 17 (fun b => (rnone 17 ++ ([some .undef, some .undef, some .undef, some (.bool b)] ++ (rnone 10)))) rfl
 ·
  intro hg17 hY17
  refine v31 rfl ?_
  iterate 2 refine wN (wanted_t 17 (by kernel_rfl) rfl) rfl rfl (v31 rfl ?_)
  refine wN rfl rfl rfl (v31 rfl ?_)
  refine hY17 _ ?_
  repeat' first | exact trivial | refine ⟨.inr rfl, ?_⟩ | refine ⟨.inl rfl, ?_⟩ | fail
 ·
  intro hg17 hY17
  refine v31 rfl ?_
  iterate 2 refine wS (wanted_f 17 (by kernel_rfl) rfl) (v31 rfl ?_)
  refine wN rfl rfl rfl (v31 rfl ?_)
  refine hY17 _ ?_
  repeat' first | exact trivial | refine ⟨.inr rfl, ?_⟩ | refine ⟨.inl rfl, ?_⟩ | fail
 refine v31 rfl ?_
 refine wN rfl rfl rfl (v31 rfl ?_)
 apply w_and 3 21 (fun b => (rnone 21 ++ ([some .undef, some .undef, some .undef, some (.bool b)] ++ (rnone 6)))) rfl
 ·
  intro hg21 hY21
  refine v31 rfl ?_
  iterate 2 refine wN (wanted_t 21 (by kernel_rfl) rfl) rfl rfl (v31 rfl ?_)
  refine wN rfl rfl rfl (v31 rfl ?_)
  refine hY21 _ ?_
  repeat' first | exact trivial | refine ⟨.inr rfl, ?_⟩ | refine ⟨.inl rfl, ?_⟩ | fail
 ·
  intro hg21 hY21
  refine v31 rfl ?_
  iterate 2 refine wS (wanted_f 21 (by kernel_rfl) rfl) (v31 rfl ?_)
  refine wN rfl rfl rfl (v31 rfl ?_)
  refine hY21 _ ?_
  repeat' first | exact trivial | refine ⟨.inr rfl, ?_⟩ | refine ⟨.inl rfl, ?_⟩ | fail
 refine v31 rfl ?_
 refine wN rfl rfl rfl (v31 rfl ?_)
 apply w_and 5 25 (fun b => (rnone 25 ++ (rundef 5 ++ ([some (.bool b)])))) rfl
 ·
  intro hg25 hY25
  refine v31 rfl ?_
  iterate 2 refine wN (wanted_t 25 (by kernel_rfl) rfl) rfl rfl (v31 rfl ?_)
  refine wN (v := .int .i64 (128 - pos)) (wanted_t 25 (by kernel_rfl) rfl) (int_eq (i64_small (by simp at hg25; omega) (by simp at hg25; omega))) rfl (v31 rfl ?_)
  refine wN (wanted_t 25 (by kernel_rfl) rfl) rfl rfl (v31 rfl ?_)
  refine wN rfl rfl rfl (v31 rfl ?_)
  refine hY25 _ ?_
  repeat' first | exact trivial | refine ⟨.inr rfl, ?_⟩ | refine ⟨.inl rfl, ?_⟩ | fail
 ·
  intro hg25 hY25
  refine v31 rfl ?_
  iterate 4 refine wS (wanted_f 25 (by kernel_rfl) rfl) (v31 rfl ?_)
  refine wN rfl rfl rfl (v31 rfl ?_)
  refine hY25 _ ?_
  repeat' first | exact trivial | refine ⟨.inr rfl, ?_⟩ | refine ⟨.inl rfl, ?_⟩ | fail
 refine v31 rfl ?_
 refine wN rfl rfl rfl (v31 rfl ?_)
 refine we rfl (vc_ret (r_fn rfl ?_))
 rfl
set_option maxHeartbeats 4000000 in
theorem sIsMark (G : Glob) (x : AV) (l : List Ro) (hL : IsL x) (hrows : lrows x = l.map Ro.row) (hlen : l.length < 9223372036854775808) (hrdy : ∀ u ∈ l, u.ready.size < 9223372036854775808) : Vi.Fn Tryz.prog G 151 [x] (.bool (isMark l)) := by
 have hxl : (lrows x).length = l.length := by rw [hrows]; simp
 refine fn_body (fun _ => .iso) Tryz.func151 rfl ?_
 refine vc_norm (env' := (_ :: _ :: _ :: _ :: _ :: _ :: _ :: _ :: _ :: _ :: _ :: _ :: _ :: _ :: _ :: _ :: _ :: _ :: _ :: _ :: _ :: _ :: _ :: _ :: _ :: _ :: _ :: _ :: _ :: _ :: _ :: _ :: _ :: _ :: _ :: _ :: _ :: _ :: _ :: _ :: _ :: _ :: _ :: _ :: _ :: _ :: _ :: _ :: _ :: _ :: _ :: _ :: _ :: _ :: _ :: _ :: [])) (H' := []) rfl rfl ?_
 refine vs (wr ?_)
 refine wN rfl rfl rfl (v56 rfl ?_)
 refine we rfl (vs (vs (wr ?_)))
 refine wN rfl rfl rfl (v56 rfl ?_)
 refine we rfl (vc_block ?_)
 refine vc_loopU (α := { i : Nat // (∀ j, j < i → markBad l j = false) ∧ i ≤ l.length }) (fun a => ([none, none, some .undef, some (.int .i64 (a.1 : Nat))] ++ (rundef 49 ++ ([none, none, none])))) (fun a => l.length - a.1) ⟨0, fun j h => by omega, by omega⟩ (by repeat' first | exact trivial | refine ⟨.inr rfl, ?_⟩ | refine ⟨.inl rfl, ?_⟩ | fail) (fun _ => ⟨Nat.zero_le _, (by repeat' first | exact trivial | exact IsL.belowV ‹_› | refine ⟨?_, ?_⟩ | exact IsL.below ‹_› | (simp [valB, leafB, cellsB, IsL.below, *]; done) | (simp [valB, leafB, cellsB, IsL.below, *]; omega) | fail), (by repeat' first | exact trivial | exact IsL.below (by assumption) | refine ⟨?_, ?_⟩ | (simp [leafB]; done))⟩) ?_
 rintro ⟨i, hn, hi⟩ Y0 hY0
 refine vc_norm (env' := (_ :: _ :: _ :: (.int .i64 (i : Int)) :: _ :: _ :: _ :: _ :: _ :: _ :: _ :: _ :: _ :: _ :: _ :: _ :: _ :: _ :: _ :: _ :: _ :: _ :: _ :: _ :: _ :: _ :: _ :: _ :: _ :: _ :: _ :: _ :: _ :: _ :: _ :: _ :: _ :: _ :: _ :: _ :: _ :: _ :: _ :: _ :: _ :: _ :: _ :: _ :: _ :: _ :: _ :: _ :: _ :: _ :: _ :: _ :: [])) (H' := []) rfl rfl ?_
 refine vs (vs (wr ?_))
 iterate 2 refine wN rfl rfl rfl (v56 rfl ?_)
 first | refine wN rfl rfl rfl (v56 rfl ?_) | refine x_len rfl rfl ‹_› Tryz.underlying91 rfl (v56 rfl ?_)
 refine wN rfl rfl rfl (v56 rfl ?_)
 refine we rfl ?_
 refine vc_cond rfl (fun hc7 => ?_) (fun hc7 => ?_)
 ·
  have hlt : i < l.length := by have := of_decide_eq_true hc7; omega
  obtain ⟨u, hu⟩ : ∃ u, l[i]? = some u := ⟨_, List.getElem?_eq_getElem hlt⟩
  have hri := open_at hrows hu
  have hru := hrdy u (List.mem_of_getElem? hu)
  refine vc_skip (n_then (vs (vc_block (vs (w_regionD (by kernel_rfl) ?_)))))
  iterate 2 refine dN rfl rfl rfl (d56 rfl ?_)
  first | refine dN (v := .iptr _ [_, _, _]) rfl rfl rfl (d56 rfl ?_) | (refine y_index rfl rfl ‹_› rfl el91 (by omega) ‹_› rfl (fun bo => ?_); refine d56 rfl ?_)
  refine dN (v := .iptr _ [_, _, _]) rfl rfl rfl (d56 rfl ?_)
  refine dN rfl rfl rfl (d56 rfl ?_)
  refine d_callI (env' := _) rfl rfl rfl (by kernel_rfl) rfl (by repeat' first | exact IsL.lend ‹_› | exact IsL.lend0 ‹_› | refine mapL_cons ?_ ?_ | refine lend_agg ?_ | rfl) (sIsNum G u.unit) rfl (d56 rfl ?_)
  iterate 2 refine dN rfl rfl rfl (d56 rfl ?_)
  refine d_split 17 rfl (fun hg17 => ?_) (fun hg17 => ?_)
  ·
   refine d56 rfl ?_
   iterate 7 refine dS (wanted_f 17 (by kernel_rfl) rfl) (d56 rfl ?_)
   iterate 2 refine dN rfl rfl rfl (d56 rfl ?_)
   iterate 7 refine dS (wanted_f 26 (by kernel_rfl) rfl) (d56 rfl ?_)
   iterate 2 refine dN rfl rfl rfl (d56 rfl ?_)
   iterate 3 refine dS (wanted_f 35 (by kernel_rfl) rfl) (d56 rfl ?_)
   iterate 12 refine dS (wanted_k 38 (by kernel_rfl) rfl) (d56 rfl ?_)
   refine dS (wanted_f 35 (by kernel_rfl) rfl) (d56 rfl ?_)
   refine dN rfl rfl rfl (d56 rfl ?_)
   refine d_end rfl ?_
   refine vc_true rfl ?_
   refine vs (wr ?_)
   refine wN rfl rfl rfl (v56 rfl ?_)
   refine we rfl (vc_ret (r_block (r_then (r_then (r_block (r_then (r_fn rfl ?_)))))))
   show some (AV.bool false) = some (AV.bool (isMark l))
   have hb : markBad l i = true := by simp only [markBad, hu]; simp_all
   rw [isMark, range_any_yes hb hlt]
   rfl
  refine d56 rfl ?_
  iterate 2 refine dN (wanted_t 17 (by kernel_rfl) rfl) rfl rfl (d56 rfl ?_)
  first | refine dN (v := .iptr _ [_, _, _]) (wanted_t 17 (by kernel_rfl) rfl) rfl rfl (d56 rfl ?_) | (refine y_index (wanted_t 17 (by kernel_rfl) rfl) rfl ‹_› rfl el91 (by omega) ‹_› rfl (fun bo => ?_); refine d56 rfl ?_)
  refine dN (v := .iptr _ [_, _]) (wanted_t 17 (by kernel_rfl) rfl) rfl rfl (d56 rfl ?_)
  refine dN (wanted_t 17 (by kernel_rfl) rfl) rfl rfl (d56 rfl ?_)
  refine d_callI (env' := _) (wanted_t 17 (by kernel_rfl) rfl) rfl rfl (by kernel_rfl) rfl (by repeat' first | exact IsL.lend ‹_› | exact IsL.lend0 ‹_› | refine mapL_cons ?_ ?_ | refine lend_agg ?_ | rfl) (sIsNum G u.next) rfl (d56 rfl ?_)
  refine dN (wanted_t 17 (by kernel_rfl) rfl) rfl rfl (d56 rfl ?_)
  iterate 2 refine dN rfl rfl rfl (d56 rfl ?_)
  refine d_split 26 rfl (fun hg26 => ?_) (fun hg26 => ?_)
  ·
   refine d56 rfl ?_
   iterate 7 refine dS (wanted_f 26 (by kernel_rfl) rfl) (d56 rfl ?_)
   iterate 2 refine dN rfl rfl rfl (d56 rfl ?_)
   iterate 3 refine dS (wanted_f 35 (by kernel_rfl) rfl) (d56 rfl ?_)
   iterate 12 refine dS (wanted_k 38 (by kernel_rfl) rfl) (d56 rfl ?_)
   refine dS (wanted_f 35 (by kernel_rfl) rfl) (d56 rfl ?_)
   refine dN rfl rfl rfl (d56 rfl ?_)
   refine d_end rfl ?_
   refine vc_true rfl ?_
   refine vs (wr ?_)
   refine wN rfl rfl rfl (v56 rfl ?_)
   refine we rfl (vc_ret (r_block (r_then (r_then (r_block (r_then (r_fn rfl ?_)))))))
   show some (AV.bool false) = some (AV.bool (isMark l))
   have hb : markBad l i = true := by simp only [markBad, hu]; simp_all
   rw [isMark, range_any_yes hb hlt]
   rfl
  refine d56 rfl ?_
  iterate 2 refine dN (wanted_t 26 (by kernel_rfl) rfl) rfl rfl (d56 rfl ?_)
  first | refine dN (v := .iptr _ [_, _, _]) (wanted_t 26 (by kernel_rfl) rfl) rfl rfl (d56 rfl ?_) | (refine y_index (wanted_t 26 (by kernel_rfl) rfl) rfl ‹_› rfl el91 (by omega) ‹_› rfl (fun bo => ?_); refine d56 rfl ?_)
  refine dN (v := .iptr _ [_]) (wanted_t 26 (by kernel_rfl) rfl) rfl rfl (d56 rfl ?_)
  iterate 3 refine dN (wanted_t 26 (by kernel_rfl) rfl) rfl rfl (d56 rfl ?_)
  iterate 2 refine dN rfl rfl rfl (d56 rfl ?_)
  refine d_split 35 rfl (fun hg35 => ?_) (fun hg35 => ?_)
  ·
   refine d56 rfl ?_
   iterate 3 refine dS (wanted_f 35 (by kernel_rfl) rfl) (d56 rfl ?_)
   iterate 12 refine dS (wanted_k 38 (by kernel_rfl) rfl) (d56 rfl ?_)
   refine dS (wanted_f 35 (by kernel_rfl) rfl) (d56 rfl ?_)
   refine dN rfl rfl rfl (d56 rfl ?_)
   refine d_end rfl ?_
   refine vc_true rfl ?_
   refine vs (wr ?_)
   refine wN rfl rfl rfl (v56 rfl ?_)
   refine we rfl (vc_ret (r_block (r_then (r_then (r_block (r_then (r_fn rfl ?_)))))))
   show some (AV.bool false) = some (AV.bool (isMark l))
   have hb : markBad l i = true := by simp only [markBad, hu]; simp_all
   rw [isMark, range_any_yes hb hlt]
   rfl
  refine d56 rfl ?_
  iterate 3 refine dN (wanted_t 35 (by kernel_rfl) rfl) rfl rfl (d56 rfl ?_)
  refine d_split 38 rfl (fun hg38 => ?_) (fun hg38 => ?_)
  ·
   obtain ⟨v, hv⟩ : ∃ v, l[i - 1]? = some v := ⟨_, List.getElem?_eq_getElem (by omega)⟩
   have hi0 : 0 < i := by have := of_decide_eq_true hg38; omega
   have hrv := open_at hrows hv
   rw [show i - 1 = ((i : Int) - 1).toNat by omega] at hrv
   refine d56 rfl ?_
   iterate 2 refine dN (wanted_t 38 (by kernel_rfl) rfl) rfl rfl (d56 rfl ?_)
   first | refine dN (v := .iptr _ [_, _, _]) (wanted_t 38 (by kernel_rfl) rfl) rfl rfl (d56 rfl ?_) | (refine y_index (wanted_t 38 (by kernel_rfl) rfl) rfl ‹_› rfl el91 (by omega) ‹_› rfl (fun bo => ?_); refine d56 rfl ?_)
   refine dN (v := .iptr _ [_, _, _]) (wanted_t 38 (by kernel_rfl) rfl) rfl rfl (d56 rfl ?_)
   iterate 3 refine dN (wanted_t 38 (by kernel_rfl) rfl) rfl rfl (d56 rfl ?_)
   refine dN (v := .int .i64 ((i : Int) - 1)) (wanted_t 38 (by kernel_rfl) rfl) (int_eq (i64_small (by omega) (by omega))) rfl (d56 rfl ?_)
   first | refine dN (v := .iptr _ [_, _, _]) (wanted_t 38 (by kernel_rfl) rfl) rfl rfl (d56 rfl ?_) | (refine y_index (wanted_t 38 (by kernel_rfl) rfl) rfl ‹_› rfl el91 (by omega) ‹_› rfl (fun bo => ?_); refine d56 rfl ?_)
   refine dN (v := .iptr _ [_, _, _]) (wanted_t 38 (by kernel_rfl) rfl) rfl rfl (d56 rfl ?_)
   iterate 2 refine dN (wanted_t 38 (by kernel_rfl) rfl) rfl rfl (d56 rfl ?_)
   refine dN (wanted_t 35 (by kernel_rfl) rfl) rfl rfl (d56 rfl ?_)
   refine dN rfl rfl rfl (d56 rfl ?_)
   refine d_end rfl ?_
   refine vc_cond rfl (fun hc52 => ?_) (fun hc52 => ?_)
   ·
    refine vs (wr ?_)
    refine wN rfl rfl rfl (v56 rfl ?_)
    refine we rfl (vc_ret (r_block (r_then (r_then (r_block (r_then (r_fn rfl ?_)))))))
    show some (AV.bool false) = some (AV.bool (isMark l))
    have hb : markBad l i = true := by simp only [markBad, hu]; simp_all
    rw [isMark, range_any_yes hb hlt]
    rfl
   refine vc_skip (n_block (n_then (wr ?_)))
   iterate 3 refine wN rfl rfl rfl (v56 rfl ?_)
   refine we rfl ?_
   refine hY0 ⟨i + 1, none_upto hn (by simp only [markBad, hu]; simp_all), hlt⟩ (by simp only; omega) _ _ _ ?_ rfl
   repeat' first | exact trivial | refine ⟨.inr rfl, ?_⟩ | refine ⟨.inl rfl, ?_⟩ | refine ⟨.inl ?_, ?_⟩ | fail
   all_goals first | exact (int_succ (by omega)).symm
  refine d56 rfl ?_
  iterate 12 refine dS (wanted_f 38 (by kernel_rfl) rfl) (d56 rfl ?_)
  refine dN (wanted_t 35 (by kernel_rfl) rfl) rfl rfl (d56 rfl ?_)
  refine dN rfl rfl rfl (d56 rfl ?_)
  refine d_end rfl ?_
  refine vc_false rfl ?_
  refine vc_skip (n_block (n_then (wr ?_)))
  iterate 3 refine wN rfl rfl rfl (v56 rfl ?_)
  refine we rfl ?_
  refine hY0 ⟨i + 1, none_upto hn (by simp only [markBad, hu]; simp_all), hlt⟩ (by simp only; omega) _ _ _ ?_ rfl
  repeat' first | exact trivial | refine ⟨.inr rfl, ?_⟩ | refine ⟨.inl rfl, ?_⟩ | refine ⟨.inl ?_, ?_⟩ | fail
  all_goals first | exact (int_succ (by omega)).symm
 have hge : l.length ≤ i := by have := of_decide_eq_false hc7; omega
 refine vc_exit (x_then (x_then (x_same (n_then (vs (wr ?_))))))
 refine wN rfl rfl rfl (v56 rfl ?_)
 first | refine wN rfl rfl rfl (v56 rfl ?_) | refine x_len rfl rfl ‹_› Tryz.underlying91 rfl (v56 rfl ?_)
 iterate 2 refine wN rfl rfl rfl (v56 rfl ?_)
 refine we rfl (vc_ret (r_fn rfl ?_))
 show some (AV.bool _) = some (AV.bool (isMark l))
 rw [isMark, range_any_no hn hge, hxl]
 rfl
set_option maxHeartbeats 4000000 in
theorem sIsRecord (G : Glob) (r : Rc) (hr : r.Ok) : Vi.Fn Tryz.prog G 120 [.agg r.row] (.bool (validR r)) := by
 have hmark := sIsMark G r.opn r.opens hr.opn hr.rows hr.len hr.rdy
 have hLb := hr.bef.1
 have hLa := hr.aft.1
 have hLo := hr.opn
 have hbb := hr.bef.2.1
 have hab := hr.aft.2.1
 have hxt := hr.txt
 have hlen := hr.len
 have hol : (lrows r.opn).length = r.opens.length := by rw [hr.rows]; simp
 show Vi.Fn _ _ _ [.agg [.int .i64 r.kind, .int .i64 r.unit, .int .i64 r.page, .int .i64 r.pos, r.bef, r.aft, .int .i64 r.back, .int .i64 r.next, .str r.text, r.opn]] _
 refine fn_body (fun _ => .iso) Tryz.func120 rfl ?_
 refine vc_norm (env' := (_ :: _ :: _ :: _ :: _ :: _ :: _ :: _ :: _ :: _ :: _ :: _ :: _ :: _ :: _ :: _ :: _ :: _ :: _ :: _ :: _ :: _ :: _ :: _ :: _ :: _ :: _ :: _ :: _ :: _ :: _ :: _ :: _ :: _ :: _ :: _ :: _ :: _ :: _ :: _ :: _ :: _ :: _ :: _ :: _ :: _ :: _ :: _ :: _ :: _ :: _ :: _ :: _ :: _ :: _ :: _ :: _ :: _ :: _ :: _ :: _ :: _ :: _ :: _ :: _ :: _ :: _ :: _ :: _ :: _ :: _ :: _ :: _ :: _ :: _ :: _ :: _ :: _ :: _ :: _ :: _ :: _ :: _ :: _ :: _ :: _ :: _ :: _ :: _ :: _ :: _ :: _ :: _ :: _ :: _ :: _ :: _ :: _ :: _ :: _ :: _ :: _ :: _ :: _ :: _ :: _ :: _ :: _ :: _ :: _ :: _ :: _ :: _ :: _ :: _ :: _ :: _ :: _ :: _ :: _ :: _ :: _ :: _ :: _ :: _ :: _ :: _ :: _ :: _ :: _ :: _ :: _ :: _ :: _ :: _ :: _ :: _ :: _ :: _ :: _ :: _ :: _ :: _ :: _ :: _ :: _ :: _ :: _ :: _ :: _ :: _ :: _ :: _ :: _ :: _ :: _ :: _ :: _ :: _ :: _ :: _ :: _ :: _ :: _ :: _ :: _ :: _ :: _ :: _ :: _ :: _ :: _ :: _ :: _ :: _ :: _ :: _ :: _ :: _ :: _ :: _ :: _ :: _ :: _ :: _ :: _ :: _ :: _ :: _ :: _ :: _ :: _ :: _ :: _ :: _ :: _ :: _ :: _ :: _ :: [])) (H' := []) rfl rfl ?_
 refine vs (wr ?_)
 refine w_opH (v := .ptr 0 0 0) (env' := _) (H2 := [.arr 93 10 [[_, _, _, _, _, _, _, _, _, _]]]) rfl rfl rfl rfl (fun _ h => h) (v199 rfl ?_)
 refine wN rfl rfl rfl (v199 rfl ?_)
 refine we rfl (vs (vs (wr ?_)))
 refine wN (v := .ptr 0 0 1) rfl rfl rfl (v199 rfl ?_)
 refine wN rfl rfl rfl (v199 rfl ?_)
 refine w_callI (env' := _) rfl rfl rfl (by kernel_rfl) rfl (by repeat' first | exact IsL.lend ‹_› | exact IsL.lend0 ‹_› | refine mapL_cons ?_ ?_ | refine lend_agg ?_ | rfl) (sIsNum G r.unit) rfl (v199 rfl ?_)
 refine wN rfl rfl rfl (v199 rfl ?_)
 refine we rfl ?_
 refine vc_cond rfl (fun hc8 => ?_) (fun hc8 => ?_)
 ·
  refine vs (wr ?_)
  refine wN rfl rfl rfl (v199 rfl ?_)
  refine we rfl (vc_ret (r_then (r_fn rfl ?_)))
  show some (AV.bool false) = some (AV.bool (validR r))
  rw [validR, show isNum r.unit = false from by simpa using hc8]
  rfl
 have hV : validR r = kindR r := by rw [validR, show isNum r.unit = true from by simpa using hc8]; rfl
 refine vc_skip (n_then (vs (wr ?_)))
 refine wN (v := .ptr 0 0 4) rfl rfl rfl (v199 rfl ?_)
 refine wN rfl rfl rfl (v199 rfl ?_)
 first | refine wN rfl rfl rfl (v199 rfl ?_) | refine x_len rfl rfl ‹_› Tryz.underlying68 rfl (v199 rfl ?_)
 iterate 2 refine wN rfl rfl rfl (v199 rfl ?_)
 apply w_or 5 13 (fun b => (rnone 13 ++ (rundef 5 ++ ([some (.bool b)] ++ (rnone 180))))) rfl
 ·
  intro hg13 hY13
  refine v199 rfl ?_
  iterate 4 refine wS (wanted_f 13 (by kernel_rfl) rfl) (v199 rfl ?_)
  refine wN rfl rfl rfl (v199 rfl ?_)
  refine hY13 _ ?_
  repeat' first | exact trivial | refine ⟨.inr rfl, ?_⟩ | refine ⟨.inl rfl, ?_⟩ | fail
 ·
  intro hg13 hY13
  refine v199 rfl ?_
  refine wN (v := .ptr 0 0 5) (wanted_t 13 (by kernel_rfl) rfl) rfl rfl (v199 rfl ?_)
  refine wN (wanted_t 13 (by kernel_rfl) rfl) rfl rfl (v199 rfl ?_)
  first | refine wN (wanted_t 13 (by kernel_rfl) rfl) rfl rfl (v199 rfl ?_) | refine x_len (wanted_t 13 (by kernel_rfl) rfl) rfl ‹_› Tryz.underlying68 rfl (v199 rfl ?_)
  refine wN (wanted_t 13 (by kernel_rfl) rfl) rfl rfl (v199 rfl ?_)
  refine wN rfl rfl rfl (v199 rfl ?_)
  refine hY13 _ ?_
  repeat' first | exact trivial | refine ⟨.inr rfl, ?_⟩ | refine ⟨.inl rfl, ?_⟩ | fail
 refine v199 rfl ?_
 refine wN rfl rfl rfl (v199 rfl ?_)
 apply w_or 4 19 (fun b => (rnone 19 ++ (rundef 4 ++ ([some (.bool b)] ++ (rnone 175))))) rfl
 ·
  intro hg19 hY19
  refine v199 rfl ?_
  iterate 3 refine wS (wanted_f 19 (by kernel_rfl) rfl) (v199 rfl ?_)
  refine wN rfl rfl rfl (v199 rfl ?_)
  refine hY19 _ ?_
  repeat' first | exact trivial | refine ⟨.inr rfl, ?_⟩ | refine ⟨.inl rfl, ?_⟩ | fail
 ·
  intro hg19 hY19
  refine v199 rfl ?_
  refine wN (v := .ptr 0 0 2) (wanted_t 19 (by kernel_rfl) rfl) rfl rfl (v199 rfl ?_)
  iterate 2 refine wN (wanted_t 19 (by kernel_rfl) rfl) rfl rfl (v199 rfl ?_)
  refine wN rfl rfl rfl (v199 rfl ?_)
  refine hY19 _ ?_
  repeat' first | exact trivial | refine ⟨.inr rfl, ?_⟩ | refine ⟨.inl rfl, ?_⟩ | fail
 refine v199 rfl ?_
 refine wN rfl rfl rfl (v199 rfl ?_)
 apply w_or 4 24 (fun b => (rnone 24 ++ (rundef 4 ++ ([some (.bool b)] ++ (rnone 170))))) rfl
 ·
  intro hg24 hY24
  refine v199 rfl ?_
  iterate 3 refine wS (wanted_f 24 (by kernel_rfl) rfl) (v199 rfl ?_)
  refine wN rfl rfl rfl (v199 rfl ?_)
  refine hY24 _ ?_
  repeat' first | exact trivial | refine ⟨.inr rfl, ?_⟩ | refine ⟨.inl rfl, ?_⟩ | fail
 ·
  intro hg24 hY24
  refine v199 rfl ?_
  refine wN (v := .ptr 0 0 3) (wanted_t 24 (by kernel_rfl) rfl) rfl rfl (v199 rfl ?_)
  iterate 2 refine wN (wanted_t 24 (by kernel_rfl) rfl) rfl rfl (v199 rfl ?_)
  refine wN rfl rfl rfl (v199 rfl ?_)
  refine hY24 _ ?_
  repeat' first | exact trivial | refine ⟨.inr rfl, ?_⟩ | refine ⟨.inl rfl, ?_⟩ | fail
 refine v199 rfl ?_
 refine wN rfl rfl rfl (v199 rfl ?_)
 refine we rfl (vs (wr ?_))
 refine wN (v := .ptr 0 0 6) rfl rfl rfl (v199 rfl ?_)
 iterate 3 refine wN rfl rfl rfl (v199 rfl ?_)
 apply w_or 4 32 (fun b => (rnone 32 ++ (rundef 4 ++ ([some (.bool b)] ++ (rnone 162))))) rfl
 ·
  intro hg32 hY32
  refine v199 rfl ?_
  iterate 3 refine wS (wanted_f 32 (by kernel_rfl) rfl) (v199 rfl ?_)
  refine wN rfl rfl rfl (v199 rfl ?_)
  refine hY32 _ ?_
  repeat' first | exact trivial | refine ⟨.inr rfl, ?_⟩ | refine ⟨.inl rfl, ?_⟩ | fail
 ·
  intro hg32 hY32
  refine v199 rfl ?_
  refine wN (v := .ptr 0 0 7) (wanted_t 32 (by kernel_rfl) rfl) rfl rfl (v199 rfl ?_)
  iterate 2 refine wN (wanted_t 32 (by kernel_rfl) rfl) rfl rfl (v199 rfl ?_)
  refine wN rfl rfl rfl (v199 rfl ?_)
  refine hY32 _ ?_
  repeat' first | exact trivial | refine ⟨.inr rfl, ?_⟩ | refine ⟨.inl rfl, ?_⟩ | fail
 refine v199 rfl ?_
 refine wN rfl rfl rfl (v199 rfl ?_)
 refine we rfl (vs (vs (wr ?_)))
 refine wN (v := .ptr 0 0 0) rfl rfl rfl (v199 rfl ?_)
 refine wN rfl rfl rfl (v199 rfl ?_)
 refine we rfl (vc_block (vs (wr ?_)))
 iterate 2 refine wN rfl rfl rfl (v199 rfl ?_)
 refine we rfl ?_
 refine vc_cond rfl (fun hc39 => ?_) (fun hc39 => ?_)
 ·
  refine vs (wr ?_)
  refine wN (v := .ptr 0 0 2) rfl rfl rfl (v199 rfl ?_)
  refine wN rfl rfl rfl (v199 rfl ?_)
  refine wN (v := .ptr 0 0 3) rfl rfl rfl (v199 rfl ?_)
  refine wN rfl rfl rfl (v199 rfl ?_)
  refine wN (v := .ptr 0 0 5) rfl rfl rfl (v199 rfl ?_)
  refine wN rfl rfl rfl (v199 rfl ?_)
  first | refine wN rfl rfl rfl (v199 rfl ?_) | refine x_len rfl rfl ‹_› Tryz.underlying68 rfl (v199 rfl ?_)
  refine w_callI (env' := _) rfl rfl rfl (by kernel_rfl) rfl (by repeat' first | exact IsL.lend ‹_› | exact IsL.lend0 ‹_› | refine mapL_cons ?_ ?_ | refine lend_agg ?_ | rfl) (sIsPlaceR G r.page r.pos (lrows r.aft).length) rfl (v199 rfl ?_)
  refine wN rfl rfl rfl (v199 rfl ?_)
  apply w_and 8 49 (fun b => (rnone 49 ++ (rundef 8 ++ ([some (.bool b)] ++ (rnone 141))))) rfl
  ·
   intro hg49 hY49
   refine v199 rfl ?_
   refine wN (v := .ptr 0 0 4) (wanted_t 49 (by kernel_rfl) rfl) rfl rfl (v199 rfl ?_)
   refine wN (wanted_t 49 (by kernel_rfl) rfl) rfl rfl (v199 rfl ?_)
   first | refine wN (wanted_t 49 (by kernel_rfl) rfl) rfl rfl (v199 rfl ?_) | refine x_len (wanted_t 49 (by kernel_rfl) rfl) rfl ‹_› Tryz.underlying68 rfl (v199 rfl ?_)
   refine wN (v := .ptr 0 0 5) (wanted_t 49 (by kernel_rfl) rfl) rfl rfl (v199 rfl ?_)
   refine wN (wanted_t 49 (by kernel_rfl) rfl) rfl rfl (v199 rfl ?_)
   first | refine wN (wanted_t 49 (by kernel_rfl) rfl) rfl rfl (v199 rfl ?_) | refine x_len (wanted_t 49 (by kernel_rfl) rfl) rfl ‹_› Tryz.underlying68 rfl (v199 rfl ?_)
   refine wN (wanted_t 49 (by kernel_rfl) rfl) rfl rfl (v199 rfl ?_)
   refine wN rfl rfl rfl (v199 rfl ?_)
   refine hY49 _ ?_
   repeat' first | exact trivial | refine ⟨.inr rfl, ?_⟩ | refine ⟨.inl rfl, ?_⟩ | fail
  ·
   intro hg49 hY49
   refine v199 rfl ?_
   iterate 7 refine wS (wanted_f 49 (by kernel_rfl) rfl) (v199 rfl ?_)
   refine wN rfl rfl rfl (v199 rfl ?_)
   refine hY49 _ ?_
   repeat' first | exact trivial | refine ⟨.inr rfl, ?_⟩ | refine ⟨.inl rfl, ?_⟩ | fail
  refine v199 rfl ?_
  refine wN rfl rfl rfl (v199 rfl ?_)
  apply w_and 3 58 (fun b => (rnone 58 ++ ([some .undef, some .undef, some .undef, some (.bool b)] ++ (rnone 137)))) rfl
  ·
   intro hg58 hY58
   refine v199 rfl ?_
   iterate 2 refine wN (wanted_t 58 (by kernel_rfl) rfl) rfl rfl (v199 rfl ?_)
   refine wN rfl rfl rfl (v199 rfl ?_)
   refine hY58 _ ?_
   repeat' first | exact trivial | refine ⟨.inr rfl, ?_⟩ | refine ⟨.inl rfl, ?_⟩ | fail
  ·
   intro hg58 hY58
   refine v199 rfl ?_
   iterate 2 refine wS (wanted_f 58 (by kernel_rfl) rfl) (v199 rfl ?_)
   refine wN rfl rfl rfl (v199 rfl ?_)
   refine hY58 _ ?_
   repeat' first | exact trivial | refine ⟨.inr rfl, ?_⟩ | refine ⟨.inl rfl, ?_⟩ | fail
  refine v199 rfl ?_
  refine wN rfl rfl rfl (v199 rfl ?_)
  apply w_and 4 62 (fun b => (rnone 62 ++ (rundef 4 ++ ([some (.bool b)] ++ (rnone 132))))) rfl
  ·
   intro hg62 hY62
   refine v199 rfl ?_
   refine wN (v := .ptr 0 0 8) (wanted_t 62 (by kernel_rfl) rfl) rfl rfl (v199 rfl ?_)
   iterate 2 refine wN (wanted_t 62 (by kernel_rfl) rfl) rfl rfl (v199 rfl ?_)
   refine wN rfl rfl rfl (v199 rfl ?_)
   refine hY62 _ ?_
   repeat' first | exact trivial | refine ⟨.inr rfl, ?_⟩ | refine ⟨.inl rfl, ?_⟩ | fail
  ·
   intro hg62 hY62
   refine v199 rfl ?_
   iterate 3 refine wS (wanted_f 62 (by kernel_rfl) rfl) (v199 rfl ?_)
   refine wN rfl rfl rfl (v199 rfl ?_)
   refine hY62 _ ?_
   repeat' first | exact trivial | refine ⟨.inr rfl, ?_⟩ | refine ⟨.inl rfl, ?_⟩ | fail
  refine v199 rfl ?_
  refine wN rfl rfl rfl (v199 rfl ?_)
  apply w_and 5 67 (fun b => (rnone 67 ++ (rundef 5 ++ ([some (.bool b)] ++ (rnone 126))))) rfl
  ·
   intro hg67 hY67
   refine v199 rfl ?_
   refine wN (v := .ptr 0 0 9) (wanted_t 67 (by kernel_rfl) rfl) rfl rfl (v199 rfl ?_)
   refine wN (wanted_t 67 (by kernel_rfl) rfl) rfl rfl (v199 rfl ?_)
   first | refine wN (wanted_t 67 (by kernel_rfl) rfl) rfl rfl (v199 rfl ?_) | refine x_len (wanted_t 67 (by kernel_rfl) rfl) rfl ‹_› Tryz.underlying91 rfl (v199 rfl ?_)
   refine wN (wanted_t 67 (by kernel_rfl) rfl) rfl rfl (v199 rfl ?_)
   refine wN rfl rfl rfl (v199 rfl ?_)
   refine hY67 _ ?_
   repeat' first | exact trivial | refine ⟨.inr rfl, ?_⟩ | refine ⟨.inl rfl, ?_⟩ | fail
  ·
   intro hg67 hY67
   refine v199 rfl ?_
   iterate 4 refine wS (wanted_f 67 (by kernel_rfl) rfl) (v199 rfl ?_)
   refine wN rfl rfl rfl (v199 rfl ?_)
   refine hY67 _ ?_
   repeat' first | exact trivial | refine ⟨.inr rfl, ?_⟩ | refine ⟨.inl rfl, ?_⟩ | fail
  refine v199 rfl ?_
  refine wN rfl rfl rfl (v199 rfl ?_)
  refine we rfl (vc_ret (r_block (r_then (r_fn rfl ?_))))
  show some (AV.bool _) = some (AV.bool (validR r))
  rw [hV, kindR, if_pos hc39]
  rw [← hol]
  try rfl
 refine vs (wr ?_)
 iterate 2 refine wN rfl rfl rfl (v199 rfl ?_)
 refine we rfl ?_
 refine vc_cond rfl (fun hc73 => ?_) (fun hc73 => ?_)
 ·
  refine vs (wr ?_)
  refine wN (v := .ptr 0 0 2) rfl rfl rfl (v199 rfl ?_)
  refine wN rfl rfl rfl (v199 rfl ?_)
  refine wN (v := .ptr 0 0 3) rfl rfl rfl (v199 rfl ?_)
  refine wN rfl rfl rfl (v199 rfl ?_)
  refine wN (v := .ptr 0 0 5) rfl rfl rfl (v199 rfl ?_)
  refine wN rfl rfl rfl (v199 rfl ?_)
  first | refine wN rfl rfl rfl (v199 rfl ?_) | refine x_len rfl rfl ‹_› Tryz.underlying68 rfl (v199 rfl ?_)
  refine w_callI (env' := _) rfl rfl rfl (by kernel_rfl) rfl (by repeat' first | exact IsL.lend ‹_› | exact IsL.lend0 ‹_› | refine mapL_cons ?_ ?_ | refine lend_agg ?_ | rfl) (sIsPlaceR G r.page r.pos (lrows r.aft).length) rfl (v199 rfl ?_)
  refine wN rfl rfl rfl (v199 rfl ?_)
  apply w_and 5 83 (fun b => (rnone 83 ++ (rundef 5 ++ ([some (.bool b)] ++ (rnone 110))))) rfl
  ·
   intro hg83 hY83
   refine v199 rfl ?_
   refine wN (v := .ptr 0 0 4) (wanted_t 83 (by kernel_rfl) rfl) rfl rfl (v199 rfl ?_)
   refine wN (wanted_t 83 (by kernel_rfl) rfl) rfl rfl (v199 rfl ?_)
   first | refine wN (wanted_t 83 (by kernel_rfl) rfl) rfl rfl (v199 rfl ?_) | refine x_len (wanted_t 83 (by kernel_rfl) rfl) rfl ‹_› Tryz.underlying68 rfl (v199 rfl ?_)
   refine wN (wanted_t 83 (by kernel_rfl) rfl) rfl rfl (v199 rfl ?_)
   refine wN rfl rfl rfl (v199 rfl ?_)
   refine hY83 _ ?_
   repeat' first | exact trivial | refine ⟨.inr rfl, ?_⟩ | refine ⟨.inl rfl, ?_⟩ | fail
  ·
   intro hg83 hY83
   refine v199 rfl ?_
   iterate 4 refine wS (wanted_f 83 (by kernel_rfl) rfl) (v199 rfl ?_)
   refine wN rfl rfl rfl (v199 rfl ?_)
   refine hY83 _ ?_
   repeat' first | exact trivial | refine ⟨.inr rfl, ?_⟩ | refine ⟨.inl rfl, ?_⟩ | fail
  refine v199 rfl ?_
  refine wN rfl rfl rfl (v199 rfl ?_)
  apply w_and 4 89 (fun b => (rnone 89 ++ (rundef 4 ++ ([some (.bool b)] ++ (rnone 105))))) rfl
  ·
   intro hg89 hY89
   refine v199 rfl ?_
   refine wN (v := .ptr 0 0 6) (wanted_t 89 (by kernel_rfl) rfl) rfl rfl (v199 rfl ?_)
   refine wN (wanted_t 89 (by kernel_rfl) rfl) rfl rfl (v199 rfl ?_)
   refine w_callI (env' := _) (wanted_t 89 (by kernel_rfl) rfl) rfl rfl (by kernel_rfl) rfl (by repeat' first | exact IsL.lend ‹_› | exact IsL.lend0 ‹_› | refine mapL_cons ?_ ?_ | refine lend_agg ?_ | rfl) (sIsNum G r.back) rfl (v199 rfl ?_)
   refine wN rfl rfl rfl (v199 rfl ?_)
   refine hY89 _ ?_
   repeat' first | exact trivial | refine ⟨.inr rfl, ?_⟩ | refine ⟨.inl rfl, ?_⟩ | fail
  ·
   intro hg89 hY89
   refine v199 rfl ?_
   iterate 3 refine wS (wanted_f 89 (by kernel_rfl) rfl) (v199 rfl ?_)
   refine wN rfl rfl rfl (v199 rfl ?_)
   refine hY89 _ ?_
   repeat' first | exact trivial | refine ⟨.inr rfl, ?_⟩ | refine ⟨.inl rfl, ?_⟩ | fail
  refine v199 rfl ?_
  refine wN rfl rfl rfl (v199 rfl ?_)
  apply w_and 4 94 (fun b => (rnone 94 ++ (rundef 4 ++ ([some (.bool b)] ++ (rnone 100))))) rfl
  ·
   intro hg94 hY94
   refine v199 rfl ?_
   refine wN (v := .ptr 0 0 7) (wanted_t 94 (by kernel_rfl) rfl) rfl rfl (v199 rfl ?_)
   refine wN (wanted_t 94 (by kernel_rfl) rfl) rfl rfl (v199 rfl ?_)
   refine w_callI (env' := _) (wanted_t 94 (by kernel_rfl) rfl) rfl rfl (by kernel_rfl) rfl (by repeat' first | exact IsL.lend ‹_› | exact IsL.lend0 ‹_› | refine mapL_cons ?_ ?_ | refine lend_agg ?_ | rfl) (sIsNum G r.next) rfl (v199 rfl ?_)
   refine wN rfl rfl rfl (v199 rfl ?_)
   refine hY94 _ ?_
   repeat' first | exact trivial | refine ⟨.inr rfl, ?_⟩ | refine ⟨.inl rfl, ?_⟩ | fail
  ·
   intro hg94 hY94
   refine v199 rfl ?_
   iterate 3 refine wS (wanted_f 94 (by kernel_rfl) rfl) (v199 rfl ?_)
   refine wN rfl rfl rfl (v199 rfl ?_)
   refine hY94 _ ?_
   repeat' first | exact trivial | refine ⟨.inr rfl, ?_⟩ | refine ⟨.inl rfl, ?_⟩ | fail
  refine v199 rfl ?_
  refine wN rfl rfl rfl (v199 rfl ?_)
  apply w_and 4 99 (fun b => (rnone 99 ++ (rundef 4 ++ ([some (.bool b)] ++ (rnone 95))))) rfl
  ·
   intro hg99 hY99
   refine v199 rfl ?_
   refine wN (v := .ptr 0 0 8) (wanted_t 99 (by kernel_rfl) rfl) rfl rfl (v199 rfl ?_)
   iterate 2 refine wN (wanted_t 99 (by kernel_rfl) rfl) rfl rfl (v199 rfl ?_)
   refine wN rfl rfl rfl (v199 rfl ?_)
   refine hY99 _ ?_
   repeat' first | exact trivial | refine ⟨.inr rfl, ?_⟩ | refine ⟨.inl rfl, ?_⟩ | fail
  ·
   intro hg99 hY99
   refine v199 rfl ?_
   iterate 3 refine wS (wanted_f 99 (by kernel_rfl) rfl) (v199 rfl ?_)
   refine wN rfl rfl rfl (v199 rfl ?_)
   refine hY99 _ ?_
   repeat' first | exact trivial | refine ⟨.inr rfl, ?_⟩ | refine ⟨.inl rfl, ?_⟩ | fail
  refine v199 rfl ?_
  refine wN rfl rfl rfl (v199 rfl ?_)
  apply w_and 5 104 (fun b => (rnone 104 ++ (rundef 5 ++ ([some (.bool b)] ++ (rnone 89))))) rfl
  ·
   intro hg104 hY104
   refine v199 rfl ?_
   refine wN (v := .ptr 0 0 9) (wanted_t 104 (by kernel_rfl) rfl) rfl rfl (v199 rfl ?_)
   refine wN (wanted_t 104 (by kernel_rfl) rfl) rfl rfl (v199 rfl ?_)
   first | refine wN (wanted_t 104 (by kernel_rfl) rfl) rfl rfl (v199 rfl ?_) | refine x_len (wanted_t 104 (by kernel_rfl) rfl) rfl ‹_› Tryz.underlying91 rfl (v199 rfl ?_)
   refine wN (wanted_t 104 (by kernel_rfl) rfl) rfl rfl (v199 rfl ?_)
   refine wN rfl rfl rfl (v199 rfl ?_)
   refine hY104 _ ?_
   repeat' first | exact trivial | refine ⟨.inr rfl, ?_⟩ | refine ⟨.inl rfl, ?_⟩ | fail
  ·
   intro hg104 hY104
   refine v199 rfl ?_
   iterate 4 refine wS (wanted_f 104 (by kernel_rfl) rfl) (v199 rfl ?_)
   refine wN rfl rfl rfl (v199 rfl ?_)
   refine hY104 _ ?_
   repeat' first | exact trivial | refine ⟨.inr rfl, ?_⟩ | refine ⟨.inl rfl, ?_⟩ | fail
  refine v199 rfl ?_
  refine wN rfl rfl rfl (v199 rfl ?_)
  refine we rfl (vc_ret (r_block (r_then (r_fn rfl ?_))))
  show some (AV.bool _) = some (AV.bool (validR r))
  rw [hV, kindR, if_neg (by rw [hc39]; decide), if_pos hc73]
  rw [← hol]
  try rfl
 refine vs (vs (wr ?_))
 iterate 2 refine wN rfl rfl rfl (v199 rfl ?_)
 refine we rfl ?_
 refine vc_cond rfl (fun hc110 => ?_) (fun hc110 => ?_)
 ·
  have h3 := hc110
  refine vc_skip (n_then ?_)
  refine vc_cond rfl (fun hc110 => ?_) (fun hc110 => ?_)
  ·
   refine vs (wr ?_)
   iterate 3 refine wN rfl rfl rfl (v199 rfl ?_)
   apply w_and 3 115 (fun b => (rnone 115 ++ ([some .undef, some .undef, some .undef, some (.bool b)] ++ (rnone 80)))) rfl
   ·
    intro hg115 hY115
    refine v199 rfl ?_
    iterate 2 refine wN (wanted_t 115 (by kernel_rfl) rfl) rfl rfl (v199 rfl ?_)
    refine wN rfl rfl rfl (v199 rfl ?_)
    refine hY115 _ ?_
    repeat' first | exact trivial | refine ⟨.inr rfl, ?_⟩ | refine ⟨.inl rfl, ?_⟩ | fail
   ·
    intro hg115 hY115
    refine v199 rfl ?_
    iterate 2 refine wS (wanted_f 115 (by kernel_rfl) rfl) (v199 rfl ?_)
    refine wN rfl rfl rfl (v199 rfl ?_)
    refine hY115 _ ?_
    repeat' first | exact trivial | refine ⟨.inr rfl, ?_⟩ | refine ⟨.inl rfl, ?_⟩ | fail
   refine v199 rfl ?_
   refine wN rfl rfl rfl (v199 rfl ?_)
   apply w_and 4 119 (fun b => (rnone 119 ++ (rundef 4 ++ ([some (.bool b)] ++ (rnone 75))))) rfl
   ·
    intro hg119 hY119
    refine v199 rfl ?_
    refine wN (v := .ptr 0 0 8) (wanted_t 119 (by kernel_rfl) rfl) rfl rfl (v199 rfl ?_)
    iterate 2 refine wN (wanted_t 119 (by kernel_rfl) rfl) rfl rfl (v199 rfl ?_)
    refine wN rfl rfl rfl (v199 rfl ?_)
    refine hY119 _ ?_
    repeat' first | exact trivial | refine ⟨.inr rfl, ?_⟩ | refine ⟨.inl rfl, ?_⟩ | fail
   ·
    intro hg119 hY119
    refine v199 rfl ?_
    iterate 3 refine wS (wanted_f 119 (by kernel_rfl) rfl) (v199 rfl ?_)
    refine wN rfl rfl rfl (v199 rfl ?_)
    refine hY119 _ ?_
    repeat' first | exact trivial | refine ⟨.inr rfl, ?_⟩ | refine ⟨.inl rfl, ?_⟩ | fail
   refine v199 rfl ?_
   refine wN rfl rfl rfl (v199 rfl ?_)
   apply w_and 5 124 (fun b => (rnone 124 ++ (rundef 5 ++ ([some (.bool b)] ++ (rnone 69))))) rfl
   ·
    intro hg124 hY124
    refine v199 rfl ?_
    refine wN (v := .ptr 0 0 9) (wanted_t 124 (by kernel_rfl) rfl) rfl rfl (v199 rfl ?_)
    refine wN (wanted_t 124 (by kernel_rfl) rfl) rfl rfl (v199 rfl ?_)
    first | refine wN (wanted_t 124 (by kernel_rfl) rfl) rfl rfl (v199 rfl ?_) | refine x_len (wanted_t 124 (by kernel_rfl) rfl) rfl ‹_› Tryz.underlying91 rfl (v199 rfl ?_)
    refine wN (wanted_t 124 (by kernel_rfl) rfl) rfl rfl (v199 rfl ?_)
    refine wN rfl rfl rfl (v199 rfl ?_)
    refine hY124 _ ?_
    repeat' first | exact trivial | refine ⟨.inr rfl, ?_⟩ | refine ⟨.inl rfl, ?_⟩ | fail
   ·
    intro hg124 hY124
    refine v199 rfl ?_
    iterate 4 refine wS (wanted_f 124 (by kernel_rfl) rfl) (v199 rfl ?_)
    refine wN rfl rfl rfl (v199 rfl ?_)
    refine hY124 _ ?_
    repeat' first | exact trivial | refine ⟨.inr rfl, ?_⟩ | refine ⟨.inl rfl, ?_⟩ | fail
   refine v199 rfl ?_
   refine wN rfl rfl rfl (v199 rfl ?_)
   refine we rfl (vc_ret (r_block (r_then (r_fn rfl ?_))))
   show some (AV.bool _) = some (AV.bool (validR r))
   rw [hV, kindR, if_neg (by rw [hc39]; decide), if_neg (by rw [hc73]; decide), if_pos (.inl h3)]
   rw [← hol]
   try rfl
  exact absurd (h3.symm.trans hc110) (by decide)
 have h3n := hc110
 refine wr ?_
 iterate 2 refine wN rfl rfl rfl (v199 rfl ?_)
 refine we rfl ?_
 refine vc_cond rfl (fun hc110 => ?_) (fun hc110 => ?_)
 ·
  refine vs (wr ?_)
  iterate 3 refine wN rfl rfl rfl (v199 rfl ?_)
  apply w_and 3 115 (fun b => (rnone 115 ++ ([some .undef, some .undef, some .undef, some (.bool b)] ++ (rnone 80)))) rfl
  ·
   intro hg115 hY115
   refine v199 rfl ?_
   iterate 2 refine wN (wanted_t 115 (by kernel_rfl) rfl) rfl rfl (v199 rfl ?_)
   refine wN rfl rfl rfl (v199 rfl ?_)
   refine hY115 _ ?_
   repeat' first | exact trivial | refine ⟨.inr rfl, ?_⟩ | refine ⟨.inl rfl, ?_⟩ | fail
  ·
   intro hg115 hY115
   refine v199 rfl ?_
   iterate 2 refine wS (wanted_f 115 (by kernel_rfl) rfl) (v199 rfl ?_)
   refine wN rfl rfl rfl (v199 rfl ?_)
   refine hY115 _ ?_
   repeat' first | exact trivial | refine ⟨.inr rfl, ?_⟩ | refine ⟨.inl rfl, ?_⟩ | fail
  refine v199 rfl ?_
  refine wN rfl rfl rfl (v199 rfl ?_)
  apply w_and 4 119 (fun b => (rnone 119 ++ (rundef 4 ++ ([some (.bool b)] ++ (rnone 75))))) rfl
  ·
   intro hg119 hY119
   refine v199 rfl ?_
   refine wN (v := .ptr 0 0 8) (wanted_t 119 (by kernel_rfl) rfl) rfl rfl (v199 rfl ?_)
   iterate 2 refine wN (wanted_t 119 (by kernel_rfl) rfl) rfl rfl (v199 rfl ?_)
   refine wN rfl rfl rfl (v199 rfl ?_)
   refine hY119 _ ?_
   repeat' first | exact trivial | refine ⟨.inr rfl, ?_⟩ | refine ⟨.inl rfl, ?_⟩ | fail
  ·
   intro hg119 hY119
   refine v199 rfl ?_
   iterate 3 refine wS (wanted_f 119 (by kernel_rfl) rfl) (v199 rfl ?_)
   refine wN rfl rfl rfl (v199 rfl ?_)
   refine hY119 _ ?_
   repeat' first | exact trivial | refine ⟨.inr rfl, ?_⟩ | refine ⟨.inl rfl, ?_⟩ | fail
  refine v199 rfl ?_
  refine wN rfl rfl rfl (v199 rfl ?_)
  apply w_and 5 124 (fun b => (rnone 124 ++ (rundef 5 ++ ([some (.bool b)] ++ (rnone 69))))) rfl
  ·
   intro hg124 hY124
   refine v199 rfl ?_
   refine wN (v := .ptr 0 0 9) (wanted_t 124 (by kernel_rfl) rfl) rfl rfl (v199 rfl ?_)
   refine wN (wanted_t 124 (by kernel_rfl) rfl) rfl rfl (v199 rfl ?_)
   first | refine wN (wanted_t 124 (by kernel_rfl) rfl) rfl rfl (v199 rfl ?_) | refine x_len (wanted_t 124 (by kernel_rfl) rfl) rfl ‹_› Tryz.underlying91 rfl (v199 rfl ?_)
   refine wN (wanted_t 124 (by kernel_rfl) rfl) rfl rfl (v199 rfl ?_)
   refine wN rfl rfl rfl (v199 rfl ?_)
   refine hY124 _ ?_
   repeat' first | exact trivial | refine ⟨.inr rfl, ?_⟩ | refine ⟨.inl rfl, ?_⟩ | fail
  ·
   intro hg124 hY124
   refine v199 rfl ?_
   iterate 4 refine wS (wanted_f 124 (by kernel_rfl) rfl) (v199 rfl ?_)
   refine wN rfl rfl rfl (v199 rfl ?_)
   refine hY124 _ ?_
   repeat' first | exact trivial | refine ⟨.inr rfl, ?_⟩ | refine ⟨.inl rfl, ?_⟩ | fail
  refine v199 rfl ?_
  refine wN rfl rfl rfl (v199 rfl ?_)
  refine we rfl (vc_ret (r_block (r_then (r_fn rfl ?_))))
  show some (AV.bool _) = some (AV.bool (validR r))
  rw [hV, kindR, if_neg (by rw [hc39]; decide), if_neg (by rw [hc73]; decide), if_pos (.inr hc110)]
  rw [← hol]
  try rfl
 refine vs (wr ?_)
 iterate 2 refine wN rfl rfl rfl (v199 rfl ?_)
 refine we rfl ?_
 refine vc_cond rfl (fun hc130 => ?_) (fun hc130 => ?_)
 ·
  refine vs (wr ?_)
  iterate 3 refine wN rfl rfl rfl (v199 rfl ?_)
  apply w_and 3 134 (fun b => (rnone 134 ++ ([some .undef, some .undef, some .undef, some (.bool b)] ++ (rnone 61)))) rfl
  ·
   intro hg134 hY134
   refine v199 rfl ?_
   iterate 2 refine wN (wanted_t 134 (by kernel_rfl) rfl) rfl rfl (v199 rfl ?_)
   refine wN rfl rfl rfl (v199 rfl ?_)
   refine hY134 _ ?_
   repeat' first | exact trivial | refine ⟨.inr rfl, ?_⟩ | refine ⟨.inl rfl, ?_⟩ | fail
  ·
   intro hg134 hY134
   refine v199 rfl ?_
   iterate 2 refine wS (wanted_f 134 (by kernel_rfl) rfl) (v199 rfl ?_)
   refine wN rfl rfl rfl (v199 rfl ?_)
   refine hY134 _ ?_
   repeat' first | exact trivial | refine ⟨.inr rfl, ?_⟩ | refine ⟨.inl rfl, ?_⟩ | fail
  refine v199 rfl ?_
  refine wN rfl rfl rfl (v199 rfl ?_)
  apply w_and 5 138 (fun b => (rnone 138 ++ (rundef 5 ++ ([some (.bool b)] ++ (rnone 55))))) rfl
  ·
   intro hg138 hY138
   refine v199 rfl ?_
   refine wN (v := .ptr 0 0 8) (wanted_t 138 (by kernel_rfl) rfl) rfl rfl (v199 rfl ?_)
   iterate 3 refine wN (wanted_t 138 (by kernel_rfl) rfl) rfl rfl (v199 rfl ?_)
   refine wN rfl rfl rfl (v199 rfl ?_)
   refine hY138 _ ?_
   repeat' first | exact trivial | refine ⟨.inr rfl, ?_⟩ | refine ⟨.inl rfl, ?_⟩ | fail
  ·
   intro hg138 hY138
   refine v199 rfl ?_
   iterate 4 refine wS (wanted_f 138 (by kernel_rfl) rfl) (v199 rfl ?_)
   refine wN rfl rfl rfl (v199 rfl ?_)
   refine hY138 _ ?_
   repeat' first | exact trivial | refine ⟨.inr rfl, ?_⟩ | refine ⟨.inl rfl, ?_⟩ | fail
  refine v199 rfl ?_
  refine wN rfl rfl rfl (v199 rfl ?_)
  apply w_and 5 144 (fun b => (rnone 144 ++ (rundef 5 ++ ([some (.bool b)] ++ (rnone 49))))) rfl
  ·
   intro hg144 hY144
   refine v199 rfl ?_
   refine wN (v := .ptr 0 0 8) (wanted_t 144 (by kernel_rfl) rfl) rfl rfl (v199 rfl ?_)
   iterate 3 refine wN (wanted_t 144 (by kernel_rfl) rfl) rfl rfl (v199 rfl ?_)
   refine wN rfl rfl rfl (v199 rfl ?_)
   refine hY144 _ ?_
   repeat' first | exact trivial | refine ⟨.inr rfl, ?_⟩ | refine ⟨.inl rfl, ?_⟩ | fail
  ·
   intro hg144 hY144
   refine v199 rfl ?_
   iterate 4 refine wS (wanted_f 144 (by kernel_rfl) rfl) (v199 rfl ?_)
   refine wN rfl rfl rfl (v199 rfl ?_)
   refine hY144 _ ?_
   repeat' first | exact trivial | refine ⟨.inr rfl, ?_⟩ | refine ⟨.inl rfl, ?_⟩ | fail
  refine v199 rfl ?_
  refine wN rfl rfl rfl (v199 rfl ?_)
  apply w_and 5 150 (fun b => (rnone 150 ++ (rundef 5 ++ ([some (.bool b)] ++ (rnone 43))))) rfl
  ·
   intro hg150 hY150
   refine v199 rfl ?_
   refine wN (v := .ptr 0 0 9) (wanted_t 150 (by kernel_rfl) rfl) rfl rfl (v199 rfl ?_)
   refine wN (wanted_t 150 (by kernel_rfl) rfl) rfl rfl (v199 rfl ?_)
   first | refine wN (wanted_t 150 (by kernel_rfl) rfl) rfl rfl (v199 rfl ?_) | refine x_len (wanted_t 150 (by kernel_rfl) rfl) rfl ‹_› Tryz.underlying91 rfl (v199 rfl ?_)
   refine wN (wanted_t 150 (by kernel_rfl) rfl) rfl rfl (v199 rfl ?_)
   refine wN rfl rfl rfl (v199 rfl ?_)
   refine hY150 _ ?_
   repeat' first | exact trivial | refine ⟨.inr rfl, ?_⟩ | refine ⟨.inl rfl, ?_⟩ | fail
  ·
   intro hg150 hY150
   refine v199 rfl ?_
   iterate 4 refine wS (wanted_f 150 (by kernel_rfl) rfl) (v199 rfl ?_)
   refine wN rfl rfl rfl (v199 rfl ?_)
   refine hY150 _ ?_
   repeat' first | exact trivial | refine ⟨.inr rfl, ?_⟩ | refine ⟨.inl rfl, ?_⟩ | fail
  refine v199 rfl ?_
  refine wN rfl rfl rfl (v199 rfl ?_)
  refine we rfl (vc_ret (r_block (r_then (r_fn rfl ?_))))
  show some (AV.bool _) = some (AV.bool (validR r))
  rw [hV, kindR, if_neg (by rw [hc39]; decide), if_neg (by rw [hc73]; decide), if_neg (by rw [h3n, hc110]; decide), if_pos hc130]
  rw [← hol]
  try rfl
 refine vs (wr ?_)
 iterate 2 refine wN rfl rfl rfl (v199 rfl ?_)
 refine we rfl ?_
 refine vc_cond rfl (fun hc156 => ?_) (fun hc156 => ?_)
 ·
  refine vs (wr ?_)
  iterate 3 refine wN rfl rfl rfl (v199 rfl ?_)
  apply w_and 3 160 (fun b => (rnone 160 ++ ([some .undef, some .undef, some .undef, some (.bool b)] ++ (rnone 35)))) rfl
  ·
   intro hg160 hY160
   refine v199 rfl ?_
   iterate 2 refine wN (wanted_t 160 (by kernel_rfl) rfl) rfl rfl (v199 rfl ?_)
   refine wN rfl rfl rfl (v199 rfl ?_)
   refine hY160 _ ?_
   repeat' first | exact trivial | refine ⟨.inr rfl, ?_⟩ | refine ⟨.inl rfl, ?_⟩ | fail
  ·
   intro hg160 hY160
   refine v199 rfl ?_
   iterate 2 refine wS (wanted_f 160 (by kernel_rfl) rfl) (v199 rfl ?_)
   refine wN rfl rfl rfl (v199 rfl ?_)
   refine hY160 _ ?_
   repeat' first | exact trivial | refine ⟨.inr rfl, ?_⟩ | refine ⟨.inl rfl, ?_⟩ | fail
  refine v199 rfl ?_
  refine wN rfl rfl rfl (v199 rfl ?_)
  apply w_and 4 164 (fun b => (rnone 164 ++ (rundef 4 ++ ([some (.bool b)] ++ (rnone 30))))) rfl
  ·
   intro hg164 hY164
   refine v199 rfl ?_
   refine wN (v := .ptr 0 0 8) (wanted_t 164 (by kernel_rfl) rfl) rfl rfl (v199 rfl ?_)
   iterate 2 refine wN (wanted_t 164 (by kernel_rfl) rfl) rfl rfl (v199 rfl ?_)
   refine wN rfl rfl rfl (v199 rfl ?_)
   refine hY164 _ ?_
   repeat' first | exact trivial | refine ⟨.inr rfl, ?_⟩ | refine ⟨.inl rfl, ?_⟩ | fail
  ·
   intro hg164 hY164
   refine v199 rfl ?_
   iterate 3 refine wS (wanted_f 164 (by kernel_rfl) rfl) (v199 rfl ?_)
   refine wN rfl rfl rfl (v199 rfl ?_)
   refine hY164 _ ?_
   repeat' first | exact trivial | refine ⟨.inr rfl, ?_⟩ | refine ⟨.inl rfl, ?_⟩ | fail
  refine v199 rfl ?_
  refine wN rfl rfl rfl (v199 rfl ?_)
  apply w_and 4 169 (fun b => (rnone 169 ++ (rundef 4 ++ ([some (.bool b)] ++ (rnone 25))))) rfl
  ·
   intro hg169 hY169
   refine v199 rfl ?_
   refine wN (v := .ptr 0 0 1) (wanted_t 169 (by kernel_rfl) rfl) rfl rfl (v199 rfl ?_)
   iterate 2 refine wN (wanted_t 169 (by kernel_rfl) rfl) rfl rfl (v199 rfl ?_)
   refine wN rfl rfl rfl (v199 rfl ?_)
   refine hY169 _ ?_
   repeat' first | exact trivial | refine ⟨.inr rfl, ?_⟩ | refine ⟨.inl rfl, ?_⟩ | fail
  ·
   intro hg169 hY169
   refine v199 rfl ?_
   iterate 3 refine wS (wanted_f 169 (by kernel_rfl) rfl) (v199 rfl ?_)
   refine wN rfl rfl rfl (v199 rfl ?_)
   refine hY169 _ ?_
   repeat' first | exact trivial | refine ⟨.inr rfl, ?_⟩ | refine ⟨.inl rfl, ?_⟩ | fail
  refine v199 rfl ?_
  refine wN rfl rfl rfl (v199 rfl ?_)
  apply w_and 4 174 (fun b => (rnone 174 ++ (rundef 4 ++ ([some (.bool b)] ++ (rnone 20))))) rfl
  ·
   intro hg174 hY174
   refine v199 rfl ?_
   refine wN (v := .ptr 0 0 9) (wanted_t 174 (by kernel_rfl) rfl) rfl rfl (v199 rfl ?_)
   refine wN (wanted_t 174 (by kernel_rfl) rfl) rfl rfl (v199 rfl ?_)
   refine w_callI (env' := _) (wanted_t 174 (by kernel_rfl) rfl) rfl rfl (by kernel_rfl) rfl (by repeat' first | exact IsL.lend ‹_› | exact IsL.lend0 ‹_› | refine mapL_cons ?_ ?_ | refine lend_agg ?_ | rfl) (hmark) rfl (v199 rfl ?_)
   refine wN rfl rfl rfl (v199 rfl ?_)
   refine hY174 _ ?_
   repeat' first | exact trivial | refine ⟨.inr rfl, ?_⟩ | refine ⟨.inl rfl, ?_⟩ | fail
  ·
   intro hg174 hY174
   refine v199 rfl ?_
   iterate 3 refine wS (wanted_f 174 (by kernel_rfl) rfl) (v199 rfl ?_)
   refine wN rfl rfl rfl (v199 rfl ?_)
   refine hY174 _ ?_
   repeat' first | exact trivial | refine ⟨.inr rfl, ?_⟩ | refine ⟨.inl rfl, ?_⟩ | fail
  refine v199 rfl ?_
  refine wN rfl rfl rfl (v199 rfl ?_)
  refine we rfl (vc_ret (r_block (r_then (r_fn rfl ?_))))
  show some (AV.bool _) = some (AV.bool (validR r))
  rw [hV, kindR, if_neg (by rw [hc39]; decide), if_neg (by rw [hc73]; decide), if_neg (by rw [h3n, hc110]; decide), if_neg (by rw [hc130]; decide), if_pos hc156]
  try rfl
 refine vs (wr ?_)
 iterate 2 refine wN rfl rfl rfl (v199 rfl ?_)
 refine we rfl ?_
 refine vc_cond rfl (fun hc179 => ?_) (fun hc179 => ?_)
 ·
  refine vs (wr ?_)
  iterate 3 refine wN rfl rfl rfl (v199 rfl ?_)
  apply w_and 3 183 (fun b => (rnone 183 ++ ([some .undef, some .undef, some .undef, some (.bool b)] ++ (rnone 12)))) rfl
  ·
   intro hg183 hY183
   refine v199 rfl ?_
   iterate 2 refine wN (wanted_t 183 (by kernel_rfl) rfl) rfl rfl (v199 rfl ?_)
   refine wN rfl rfl rfl (v199 rfl ?_)
   refine hY183 _ ?_
   repeat' first | exact trivial | refine ⟨.inr rfl, ?_⟩ | refine ⟨.inl rfl, ?_⟩ | fail
  ·
   intro hg183 hY183
   refine v199 rfl ?_
   iterate 2 refine wS (wanted_f 183 (by kernel_rfl) rfl) (v199 rfl ?_)
   refine wN rfl rfl rfl (v199 rfl ?_)
   refine hY183 _ ?_
   repeat' first | exact trivial | refine ⟨.inr rfl, ?_⟩ | refine ⟨.inl rfl, ?_⟩ | fail
  refine v199 rfl ?_
  refine wN rfl rfl rfl (v199 rfl ?_)
  apply w_and 5 187 (fun b => (rnone 187 ++ (rundef 5 ++ ([some (.bool b)] ++ (rnone 6))))) rfl
  ·
   intro hg187 hY187
   refine v199 rfl ?_
   refine wN (v := .ptr 0 0 8) (wanted_t 187 (by kernel_rfl) rfl) rfl rfl (v199 rfl ?_)
   iterate 3 refine wN (wanted_t 187 (by kernel_rfl) rfl) rfl rfl (v199 rfl ?_)
   refine wN rfl rfl rfl (v199 rfl ?_)
   refine hY187 _ ?_
   repeat' first | exact trivial | refine ⟨.inr rfl, ?_⟩ | refine ⟨.inl rfl, ?_⟩ | fail
  ·
   intro hg187 hY187
   refine v199 rfl ?_
   iterate 4 refine wS (wanted_f 187 (by kernel_rfl) rfl) (v199 rfl ?_)
   refine wN rfl rfl rfl (v199 rfl ?_)
   refine hY187 _ ?_
   repeat' first | exact trivial | refine ⟨.inr rfl, ?_⟩ | refine ⟨.inl rfl, ?_⟩ | fail
  refine v199 rfl ?_
  refine wN rfl rfl rfl (v199 rfl ?_)
  apply w_and 5 193 (fun b => (rnone 193 ++ (rundef 5 ++ ([some (.bool b)])))) rfl
  ·
   intro hg193 hY193
   refine v199 rfl ?_
   refine wN (v := .ptr 0 0 9) (wanted_t 193 (by kernel_rfl) rfl) rfl rfl (v199 rfl ?_)
   refine wN (wanted_t 193 (by kernel_rfl) rfl) rfl rfl (v199 rfl ?_)
   first | refine wN (wanted_t 193 (by kernel_rfl) rfl) rfl rfl (v199 rfl ?_) | refine x_len (wanted_t 193 (by kernel_rfl) rfl) rfl ‹_› Tryz.underlying91 rfl (v199 rfl ?_)
   refine wN (wanted_t 193 (by kernel_rfl) rfl) rfl rfl (v199 rfl ?_)
   refine wN rfl rfl rfl (v199 rfl ?_)
   refine hY193 _ ?_
   repeat' first | exact trivial | refine ⟨.inr rfl, ?_⟩ | refine ⟨.inl rfl, ?_⟩ | fail
  ·
   intro hg193 hY193
   refine v199 rfl ?_
   iterate 4 refine wS (wanted_f 193 (by kernel_rfl) rfl) (v199 rfl ?_)
   refine wN rfl rfl rfl (v199 rfl ?_)
   refine hY193 _ ?_
   repeat' first | exact trivial | refine ⟨.inr rfl, ?_⟩ | refine ⟨.inl rfl, ?_⟩ | fail
  refine v199 rfl ?_
  refine wN rfl rfl rfl (v199 rfl ?_)
  refine we rfl (vc_ret (r_block (r_then (r_fn rfl ?_))))
  show some (AV.bool _) = some (AV.bool (validR r))
  rw [hV, kindR, if_neg (by rw [hc39]; decide), if_neg (by rw [hc73]; decide), if_neg (by rw [h3n, hc110]; decide), if_neg (by rw [hc130]; decide), if_neg (by rw [hc156]; decide), if_pos hc179]
  rw [← hol]
  try rfl
 refine vc_skip (n_block (n_then (vs (wr ?_))))
 refine wN rfl rfl rfl (v199 rfl ?_)
 refine we rfl (vc_ret (r_fn rfl ?_))
 show some (AV.bool _) = some (AV.bool (validR r))
 rw [hV, kindR, if_neg (by rw [hc39]; decide), if_neg (by rw [hc73]; decide), if_neg (by rw [h3n, hc110]; decide), if_neg (by rw [hc130]; decide), if_neg (by rw [hc156]; decide), if_neg (by rw [hc179]; decide)]
 try rfl
end Go.Vi
namespace Go.Vi
open Go Go.Vi Go.Proofs
attribute [local irreducible] vops vopsD vc
theorem rowsOf_app {H g : Hp} {x : AV} {rows : List (List AV)} (h : rowsOf H x = some rows) : rowsOf (H ++ g) x = some rows := by
 cases x with
 | row t l i n =>
   simp only [rowsOf] at h ⊢
   cases hl : H[l]? with
   | none => rw [hl] at h; cases h
   | some o => rw [hl] at h; rw [get_app hl]; exact h
 | sub l i k es n =>
   simp only [rowsOf] at h ⊢
   cases hl : H[l]? with
   | none => rw [hl] at h; cases h
   | some o => rw [hl] at h; rw [get_app hl]; exact h
 | nils => exact h
 | list t r => exact h
 | _ => cases h
theorem seq_comm {a b : ByteArray} : seq a b = seq b a := by
 rw [Bool.eq_iff_iff, seq_eq, seq_eq]; exact eq_comm
theorem eqB_comm {a b : List (List AV)} : eqB a b = eqB b a := seq_comm
theorem undone_none {s : St} {r : Rc} (h : (s.unit r.unit).left = []) : s.undoneOk r = false := by
 simp [St.undoneOk, h]
theorem hv_guard {r : Rc} (hv : validP r = true) (h0 : r.unit ≠ 0) (h6 : r.kind ≠ 6) : (!validP r || ((r.unit == 0) != (r.kind == 6)) && !(r.kind == 7 && r.unit == 0)) = false := by
 have a : (r.unit == 0) = false := by simpa using h0
 have b : (r.kind == 6) = false := by simpa using h6
 simp [hv, a, b]
theorem valid_6 {r : Rc} (hv : validP r = true) (h6 : r.kind = 6) : r.unit = 0 := by
 rw [valid_eq] at hv
 simp only [validR, kindR, h6] at hv
 simp at hv
 omega
theorem follows_6 {s : St} {r : Rc} (hv : validP r = true) (h6 : r.kind = 6) : s.follows r = sameOpens r.opens s.opens := by
 have h0 := valid_6 hv h6
 unfold St.follows
 simp [hv, h6, h0, St.kindOk]
theorem follows_0 {s : St} {r : Rc} (hv : validP r = true) (h6 : r.kind ≠ 6) (h0 : r.unit = 0) : s.follows r = (r.kind == 7) := by
 unfold St.follows
 by_cases h7 : r.kind = 7
 · simp [hv, h0, h7, St.kindOk]
 have b : (r.kind == 6) = false := by simpa using h6
 have c : (r.kind == 7) = false := by simpa using h7
 simp [hv, h0, b, c]
set_option maxHeartbeats 8000000 in
theorem sIsUndoneN (G : Glob) (H : Hp) (w : Rst) (s : St) (own : Nat → Own) (hW : RRep H w s own) (hS : StOk s) (r : Rc) (hr : r.Ok) (hns : (s.unit r.unit).seen = false) : XS Tryz.prog G 125 [.ptr w.lw 0 0, .nilp, .agg r.row] H (fun v H' => ∃ g, H' = H ++ g ∧ v.isVal = true ∧ v = .bool (s.undoneOk r)) := by
 have hLb := hr.bef.1
 have hLa := hr.aft.1
 have hLo := hr.opn
 have hbb := hr.bef.2.1
 have hab := hr.aft.2.1
 have hxt := hr.txt
 have hlen := hr.len
 have hol : (lrows r.opn).length = r.opens.length := by rw [hr.rows]; simp
 have hle : (s.unit r.unit).left = [] := by rw [hS.unseen _ hns]; rfl
 refine xs_body (fun o => match o.op with | .call ⟨.value (.func f), _, _⟩ => if f = 141 then .iso else .shr | .call ⟨.builtin .append, _, _⟩ => .shr | _ => .iso) Tryz.func125 rfl ?_
 refine vc_norm (env' := (_ :: _ :: _ :: _ :: _ :: _ :: _ :: _ :: _ :: _ :: _ :: _ :: _ :: _ :: _ :: _ :: _ :: _ :: _ :: _ :: _ :: _ :: _ :: _ :: _ :: _ :: _ :: _ :: _ :: _ :: _ :: _ :: _ :: _ :: _ :: _ :: _ :: _ :: _ :: _ :: _ :: _ :: _ :: _ :: _ :: _ :: _ :: _ :: _ :: _ :: _ :: _ :: _ :: _ :: _ :: _ :: [])) (H' := _) rfl rfl ?_
 refine vs (wr ?_)
 refine w_opH (v := .ptr H.length 0 0) (env' := _) (H2 := (H ++ [VO.arr 93 10 [r.row]])) rfl (g_box (x := .agg r.row) rfl rfl) rfl (rfl) (fun _ h => h) (v56 rfl ?_)
 refine wN rfl rfl rfl (v56 rfl ?_)
 refine we rfl (vs (vs (wr ?_)))
 iterate 3 refine wN rfl rfl rfl (v56 rfl ?_)
 iterate 6 refine wS (wanted_f 10 (by kernel_rfl) rfl) (v56 rfl ?_)
 refine wN rfl rfl rfl (v56 rfl ?_)
 refine we rfl ?_
 refine vc_true rfl ?_
 refine vs (wr ?_)
 refine wN rfl rfl rfl (v56 rfl ?_)
 refine we rfl (vc_ret (r_then (r_fn rfl ?_)))
 exact ⟨_, rfl, rfl, by rw [undone_none hle]⟩
set_option maxHeartbeats 8000000 in
theorem sIsUndoneP (G : Glob) (H : Hp) (w : Rst) (s : St) (own : Nat → Own) (hW : RRep H w s own) (hS : StOk s) (r : Rc) (hr : r.Ok) (l : Nat) (lv : AV) (hu : UnR H own r.unit l lv (s.unit r.unit)) : XS Tryz.prog G 125 [.ptr w.lw 0 0, .ptr l 0 0, .agg r.row] H (fun v H' => ∃ g, H' = H ++ g ∧ v.isVal = true ∧ v = .bool (s.undoneOk r)) := by
 have hLb := hr.bef.1
 have hLa := hr.aft.1
 have hLo := hr.opn
 have hbb := hr.bef.2.1
 have hab := hr.aft.2.1
 have hxt := hr.txt
 have hlen := hr.len
 have hol : (lrows r.opn).length = r.opens.length := by rw [hr.rows]; simp
 have hb0 : (H ++ [VO.arr 93 10 [r.row]])[H.length]? = some (VO.arr 93 10 [r.row]) := get_last
 have hWx : RRep (H ++ [VO.arr 93 10 [r.row]]) w s own := hW.app _
 have hux : UnR (H ++ [VO.arr 93 10 [r.row]]) own r.unit l lv (s.unit r.unit) := ⟨get_app hu.obj, by rcases hu.left with h1 | ⟨L, rows0, h1, h2, h3, h4⟩; exact .inl h1; exact .inr ⟨L, rows0, h1, h2, get_app h3, h4⟩⟩
 refine xs_body (fun o => match o.op with | .call ⟨.value (.func f), _, _⟩ => if f = 141 then .iso else .shr | .call ⟨.builtin .append, _, _⟩ => .shr | _ => .iso) Tryz.func125 rfl ?_
 refine vc_norm (env' := (_ :: _ :: _ :: _ :: _ :: _ :: _ :: _ :: _ :: _ :: _ :: _ :: _ :: _ :: _ :: _ :: _ :: _ :: _ :: _ :: _ :: _ :: _ :: _ :: _ :: _ :: _ :: _ :: _ :: _ :: _ :: _ :: _ :: _ :: _ :: _ :: _ :: _ :: _ :: _ :: _ :: _ :: _ :: _ :: _ :: _ :: _ :: _ :: _ :: _ :: _ :: _ :: _ :: _ :: _ :: _ :: [])) (H' := _) rfl rfl ?_
 refine vs (wr ?_)
 refine w_opH (v := .ptr H.length 0 0) (env' := _) (H2 := (H ++ [VO.arr 93 10 [r.row]])) rfl (g_box (x := .agg r.row) rfl rfl) rfl (rfl) (fun _ h => h) (v56 rfl ?_)
 refine wN rfl rfl rfl (v56 rfl ?_)
 refine we rfl (vs (vs (wr ?_)))
 refine wN (v := .ptr l 0 0) rfl rfl rfl (v56 rfl ?_)
 iterate 2 refine wN rfl rfl rfl (v56 rfl ?_)
 refine wN (v := .ptr l 0 0) (wanted_t 10 (by kernel_rfl) rfl) rfl rfl (v56 rfl ?_)
 iterate 2 refine wN (wanted_t 10 (by kernel_rfl) rfl) rfl rfl (v56 rfl ?_)
 refine wN (v := lv) (wanted_t 10 (by kernel_rfl) rfl) (g_load hux.obj rfl rfl) rfl (v56 rfl ?_)
 refine wN (v := .int .i64 (s.unit r.unit).left.length) (wanted_t 10 (by kernel_rfl) rfl) (rleft_len hux) rfl (v56 rfl ?_)
 refine wN (wanted_t 10 (by kernel_rfl) rfl) rfl rfl (v56 rfl ?_)
 refine wN rfl rfl rfl (v56 rfl ?_)
 refine we rfl ?_
 refine vc_cond rfl (fun hc17 => ?_) (fun hc17 => ?_)
 ·
  refine vs (wr ?_)
  refine wN rfl rfl rfl (v56 rfl ?_)
  refine we rfl (vc_ret (r_then (r_fn rfl ?_)))
  have hle : (s.unit r.unit).left = [] := List.length_eq_zero_iff.1 (by have := hc17; simpa using this)
  exact ⟨_, rfl, rfl, by rw [undone_none hle]⟩
 have hne : (s.unit r.unit).left ≠ [] := fun e => by rw [e] at hc17; cases hc17
 obtain ⟨b, hlast⟩ : ∃ b, (s.unit r.unit).left.getLast? = some b := ⟨_, List.getLast?_eq_some_getLast hne⟩
 have hqb := hS.lft r.unit b (List.mem_of_getLast? hlast)
 obtain ⟨c, hcr⟩ : ∃ c, s.recs[(b - 1).toNat]? = some c := ⟨_, List.getElem?_eq_getElem (by omega)⟩
 have hcO := hW.rok c (List.mem_of_getElem? hcr)
 refine vc_skip (n_then (vs (wr ?_)))
 refine wN (v := .ptr w.lw 0 0) rfl rfl rfl (v56 rfl ?_)
 refine wN (v := .ptr l 0 0) rfl rfl rfl (v56 rfl ?_)
 refine w_callS rfl rfl rfl (by kernel_rfl) rfl (sUndone G _ w s own hWx hS r.unit l lv hux b hlast c hcr) ?_
 rintro _ Hc ⟨g, af, hHc, rfl, haf⟩
 have hbr : (Hc ++ [VO.arr 93 10 [[.int .i64 2, .int .i64 r.unit, .int .i64 c.page, .int .i64 c.pos, .nils, af, .int .i64 b, .int .i64 ((s.unit r.unit).left.dropLast.getLast?.getD 0), .str ⟨#[]⟩, .nils]]])[H.length]? = some (VO.arr 93 10 [r.row]) := by rw [hHc]; exact get_app (get_app hb0)
 refine v56 rfl ?_
 refine w_opH (v := .ptr Hc.length 0 0) (env' := _) (H2 := (Hc ++ [VO.arr 93 10 [[.int .i64 0, .int .i64 0, .int .i64 0, .int .i64 0, .nils, .nils, .int .i64 0, .int .i64 0, .str ⟨#[]⟩, .nils]]])) rfl (g_alloc zr93b rfl rfl) rfl (rfl) (fun _ h => h) (v56 rfl ?_)
 refine w_op0N (H2 := (Hc ++ [VO.arr 93 10 [[.int .i64 2, .int .i64 r.unit, .int .i64 c.page, .int .i64 c.pos, .nils, af, .int .i64 b, .int .i64 ((s.unit r.unit).left.dropLast.getLast?.getD 0), .str ⟨#[]⟩, .nils]]])) rfl (g_store get_last rfl rfl sz93 ⟨rfl, by simp, by decide⟩) (set_last) (fun _ h => h) ?_
 refine we rfl (vs (wr ?_))
 refine wN (v := .ptr H.length 0 2) rfl rfl rfl (v56 rfl ?_)
 refine wN (v := .int .i64 r.page) rfl (g_load hbr rfl rfl) rfl (v56 rfl ?_)
 refine wN (v := .ptr Hc.length 0 2) rfl rfl rfl (v56 rfl ?_)
 refine wN (v := .int .i64 c.page) rfl (g_load get_last rfl rfl) rfl (v56 rfl ?_)
 iterate 2 refine wN rfl rfl rfl (v56 rfl ?_)
 apply w_and 6 26 (fun b => (rnone 26 ++ (rundef 6 ++ ([some (.bool b)] ++ (rnone 23))))) rfl
 ·
  intro hg26 hY26
  refine v56 rfl ?_
  refine wN (v := .ptr H.length 0 3) (wanted_t 26 (by kernel_rfl) rfl) rfl rfl (v56 rfl ?_)
  refine wN (v := .int .i64 r.pos) (wanted_t 26 (by kernel_rfl) rfl) (g_load hbr rfl rfl) rfl (v56 rfl ?_)
  refine wN (v := .ptr Hc.length 0 3) (wanted_t 26 (by kernel_rfl) rfl) rfl rfl (v56 rfl ?_)
  refine wN (v := .int .i64 c.pos) (wanted_t 26 (by kernel_rfl) rfl) (g_load get_last rfl rfl) rfl (v56 rfl ?_)
  refine wN (wanted_t 26 (by kernel_rfl) rfl) rfl rfl (v56 rfl ?_)
  refine wN rfl rfl rfl (v56 rfl ?_)
  refine hY26 _ ?_
  repeat' first | exact trivial | refine ⟨.inr rfl, ?_⟩ | refine ⟨.inl rfl, ?_⟩ | fail
 ·
  intro hg26 hY26
  refine v56 rfl ?_
  iterate 5 refine wS (wanted_f 26 (by kernel_rfl) rfl) (v56 rfl ?_)
  refine wN rfl rfl rfl (v56 rfl ?_)
  refine hY26 _ ?_
  repeat' first | exact trivial | refine ⟨.inr rfl, ?_⟩ | refine ⟨.inl rfl, ?_⟩ | fail
 refine v56 rfl ?_
 refine wN rfl rfl rfl (v56 rfl ?_)
 apply w_and 8 33 (fun b => (rnone 33 ++ (rundef 8 ++ ([some (.bool b)] ++ (rnone 14))))) rfl
 ·
  intro hg33 hY33
  refine v56 rfl ?_
  refine wN (v := .ptr H.length 0 5) (wanted_t 33 (by kernel_rfl) rfl) rfl rfl (v56 rfl ?_)
  refine wN (v := r.aft) (wanted_t 33 (by kernel_rfl) rfl) (g_load hbr rfl rfl) rfl (v56 rfl ?_)
  refine wN (v := .str (byteStr (lrows r.aft))) (wanted_t 33 (by kernel_rfl) rfl) (conv_byt (e := 5) Tryz.underlying68 Tryz.underlying9 Tryz.underlying5 (IsL.rowsOf hLa) hr.aft.2.2) rfl (v56 rfl ?_)
  refine wN (v := .ptr Hc.length 0 5) (wanted_t 33 (by kernel_rfl) rfl) rfl rfl (v56 rfl ?_)
  refine wN (v := af) (wanted_t 33 (by kernel_rfl) rfl) (g_load get_last rfl rfl) rfl (v56 rfl ?_)
  refine wN (v := .str (byteStr (lrows c.bef))) (wanted_t 33 (by kernel_rfl) rfl) (conv_byt (e := 5) Tryz.underlying68 Tryz.underlying9 Tryz.underlying5 (rowsOf_app haf) hcO.bef.2.2) rfl (v56 rfl ?_)
  refine wN (wanted_t 33 (by kernel_rfl) rfl) rfl rfl (v56 rfl ?_)
  refine wN rfl rfl rfl (v56 rfl ?_)
  refine hY33 _ ?_
  repeat' first | exact trivial | refine ⟨.inr rfl, ?_⟩ | refine ⟨.inl rfl, ?_⟩ | fail
 ·
  intro hg33 hY33
  refine v56 rfl ?_
  iterate 7 refine wS (wanted_f 33 (by kernel_rfl) rfl) (v56 rfl ?_)
  refine wN rfl rfl rfl (v56 rfl ?_)
  refine hY33 _ ?_
  repeat' first | exact trivial | refine ⟨.inr rfl, ?_⟩ | refine ⟨.inl rfl, ?_⟩ | fail
 refine v56 rfl ?_
 refine wN rfl rfl rfl (v56 rfl ?_)
 apply w_and 6 42 (fun b => (rnone 42 ++ (rundef 6 ++ ([some (.bool b)] ++ (rnone 7))))) rfl
 ·
  intro hg42 hY42
  refine v56 rfl ?_
  refine wN (v := .ptr H.length 0 6) (wanted_t 42 (by kernel_rfl) rfl) rfl rfl (v56 rfl ?_)
  refine wN (v := .int .i64 r.back) (wanted_t 42 (by kernel_rfl) rfl) (g_load hbr rfl rfl) rfl (v56 rfl ?_)
  refine wN (v := .ptr Hc.length 0 6) (wanted_t 42 (by kernel_rfl) rfl) rfl rfl (v56 rfl ?_)
  refine wN (v := .int .i64 b) (wanted_t 42 (by kernel_rfl) rfl) (g_load get_last rfl rfl) rfl (v56 rfl ?_)
  refine wN (wanted_t 42 (by kernel_rfl) rfl) rfl rfl (v56 rfl ?_)
  refine wN rfl rfl rfl (v56 rfl ?_)
  refine hY42 _ ?_
  repeat' first | exact trivial | refine ⟨.inr rfl, ?_⟩ | refine ⟨.inl rfl, ?_⟩ | fail
 ·
  intro hg42 hY42
  refine v56 rfl ?_
  iterate 5 refine wS (wanted_f 42 (by kernel_rfl) rfl) (v56 rfl ?_)
  refine wN rfl rfl rfl (v56 rfl ?_)
  refine hY42 _ ?_
  repeat' first | exact trivial | refine ⟨.inr rfl, ?_⟩ | refine ⟨.inl rfl, ?_⟩ | fail
 refine v56 rfl ?_
 refine wN rfl rfl rfl (v56 rfl ?_)
 apply w_and 6 49 (fun b => (rnone 49 ++ (rundef 6 ++ ([some (.bool b)])))) rfl
 ·
  intro hg49 hY49
  refine v56 rfl ?_
  refine wN (v := .ptr H.length 0 7) (wanted_t 49 (by kernel_rfl) rfl) rfl rfl (v56 rfl ?_)
  refine wN (v := .int .i64 r.next) (wanted_t 49 (by kernel_rfl) rfl) (g_load hbr rfl rfl) rfl (v56 rfl ?_)
  refine wN (v := .ptr Hc.length 0 7) (wanted_t 49 (by kernel_rfl) rfl) rfl rfl (v56 rfl ?_)
  refine wN (v := .int .i64 ((s.unit r.unit).left.dropLast.getLast?.getD 0)) (wanted_t 49 (by kernel_rfl) rfl) (g_load get_last rfl rfl) rfl (v56 rfl ?_)
  refine wN (wanted_t 49 (by kernel_rfl) rfl) rfl rfl (v56 rfl ?_)
  refine wN rfl rfl rfl (v56 rfl ?_)
  refine hY49 _ ?_
  repeat' first | exact trivial | refine ⟨.inr rfl, ?_⟩ | refine ⟨.inl rfl, ?_⟩ | fail
 ·
  intro hg49 hY49
  refine v56 rfl ?_
  iterate 5 refine wS (wanted_f 49 (by kernel_rfl) rfl) (v56 rfl ?_)
  refine wN rfl rfl rfl (v56 rfl ?_)
  refine hY49 _ ?_
  repeat' first | exact trivial | refine ⟨.inr rfl, ?_⟩ | refine ⟨.inl rfl, ?_⟩ | fail
 refine v56 rfl ?_
 refine wN rfl rfl rfl (v56 rfl ?_)
 refine we rfl (vc_ret (r_fn rfl ?_))
 refine ⟨_, by rw [hHc, List.append_assoc, List.append_assoc], rfl, ?_⟩
 have : s.undoneOk r = ((((r.page == c.page) && (r.pos == c.pos)) && eqB (lrows r.aft) (lrows c.bef)) && (r.back == b) && (r.next == (s.unit r.unit).left.dropLast.getLast?.getD 0)) := by
  simp only [St.undoneOk, hlast, hcr]
  rw [eqB_comm (a := lrows c.bef), Bool.eq_iff_iff]
  simp only [Bool.and_eq_true, beq_iff_eq]
  constructor
  · rintro ⟨h1, ⟨⟨h2, h3⟩, h4⟩, h5⟩; exact ⟨⟨⟨⟨h2.symm, h3.symm⟩, h4⟩, h1.symm⟩, h5⟩
  rintro ⟨⟨⟨⟨h2, h3⟩, h4⟩, h1⟩, h5⟩; exact ⟨h1.symm, ⟨⟨h2.symm, h3.symm⟩, h4⟩, h5⟩
 rw [this]
 rfl
theorem sIsUndone (G : Glob) (H : Hp) (w : Rst) (s : St) (own : Nat → Own) (hW : RRep H w s own) (hS : StOk s) (r : Rc) (hr : r.Ok) : XS Tryz.prog G 125 [.ptr w.lw 0 0, rfind w.us r.unit, .agg r.row] H (fun v H' => v = .bool (s.undoneOk r) ∧ H' = H) := by
 rcases hW.find r.unit with ⟨h1, h2⟩ | ⟨l, lv, h1, h2, h3, h4, h5⟩
 · rw [h1]
   exact XS.strip ((sIsUndoneN G H w s own hW hS r hr h2).mono fun v H' ⟨g, h1, h2, h3⟩ => ⟨g, h1, h2, h3, rfl⟩)
 rw [h1]
 exact XS.strip ((sIsUndoneP G H w s own hW hS r hr l lv h5).mono fun v H' ⟨g, h1, h2, h3⟩ => ⟨g, h1, h2, h3, rfl⟩)
set_option maxHeartbeats 8000000 in
theorem sFollowsW (G : Glob) (H : Hp) (w : Rst) (s : St) (own : Nat → Own) (hW : RRep H w s own) (hS : StOk s) (hus : w.us.length ≤ 1000000) (r : Rc) (hr : r.Ok) : XS Tryz.prog G 96 [.ptr w.lw 0 0, .agg r.row] H (fun v H' => ∃ g, H' = H ++ g ∧ v.isVal = true ∧ v = .bool (s.follows r)) := by
 have hLb := hr.bef.1
 have hLa := hr.aft.1
 have hLo := hr.opn
 have hbb := hr.bef.2.1
 have hab := hr.aft.2.1
 have hxt := hr.txt
 have hlen := hr.len
 have hol : (lrows r.opn).length = r.opens.length := by rw [hr.rows]; simp
 have hb0 : (H ++ [VO.arr 93 10 [r.row]])[H.length]? = some (VO.arr 93 10 [r.row]) := get_last
 have hWx : RRep (H ++ [VO.arr 93 10 [r.row]]) w s own := hW.app _
 refine xs_body (fun o => match o.op with | .call ⟨.value (.func f), _, _⟩ => if f = 120 ∨ f = 121 then .iso else .shr | .call ⟨.builtin .append, _, _⟩ => .shr | _ => .iso) Tryz.func96 rfl ?_
 refine vc_norm (env' := (_ :: _ :: _ :: _ :: _ :: _ :: _ :: _ :: _ :: _ :: _ :: _ :: _ :: _ :: _ :: _ :: _ :: _ :: _ :: _ :: _ :: _ :: _ :: _ :: _ :: _ :: _ :: _ :: _ :: _ :: _ :: _ :: _ :: _ :: _ :: _ :: _ :: _ :: _ :: _ :: _ :: _ :: _ :: _ :: _ :: _ :: _ :: _ :: _ :: _ :: _ :: _ :: _ :: _ :: _ :: _ :: _ :: _ :: _ :: _ :: _ :: _ :: _ :: _ :: _ :: _ :: _ :: _ :: _ :: _ :: _ :: _ :: _ :: _ :: _ :: _ :: _ :: _ :: _ :: _ :: _ :: _ :: _ :: _ :: _ :: _ :: _ :: _ :: _ :: _ :: _ :: _ :: _ :: [])) (H' := _) rfl rfl ?_
 refine vs (wr ?_)
 refine w_opH (v := .ptr H.length 0 0) (env' := _) (H2 := (H ++ [VO.arr 93 10 [r.row]])) rfl (g_box (x := .agg r.row) rfl rfl) rfl (rfl) (fun _ h => h) (v93 rfl ?_)
 refine wN rfl rfl rfl (v93 rfl ?_)
 refine we rfl (vs (vs (wr ?_)))
 refine wN (v := .agg r.row) rfl (g_load hb0 rfl rfl) rfl (v93 rfl ?_)
 refine w_callI (env' := _) rfl rfl rfl (by kernel_rfl) rfl (mapL_cons hr.lend rfl) (sIsRecord G r hr) rfl (v93 rfl ?_)
 refine wN rfl rfl rfl (v93 rfl ?_)
 refine we rfl ?_
 refine vc_cond rfl (fun hc8 => ?_) (fun hc8 => ?_)
 ·
  refine vs (wr ?_)
  refine wN rfl rfl rfl (v93 rfl ?_)
  refine we rfl (vc_ret (r_then (r_fn rfl ?_)))
  refine ⟨_, rfl, rfl, ?_⟩
  have : s.follows r = false := by unfold St.follows; rw [valid_eq, show validR r = false by simpa using hc8]; simp
  rw [this]
 have hv : validP r = true := by rw [valid_eq]; simpa using hc8
 have hin := validP_in hv
 refine vc_skip (n_then (vs (vs (wr ?_))))
 refine wN (v := .ptr H.length 0 0) rfl rfl rfl (v93 rfl ?_)
 refine wN (v := .int .i64 r.kind) rfl (g_load hb0 rfl rfl) rfl (v93 rfl ?_)
 refine wN rfl rfl rfl (v93 rfl ?_)
 refine we rfl ?_
 refine vc_cond rfl (fun hc11 => ?_) (fun hc11 => ?_)
 ·
  refine vs ?_
  refine w_regionW [(H ++ [VO.arr 93 10 [r.row]])] (by kernel_rfl) ?_
  refine e_op (v := .ptr H.length 0 9) (env' := _) rfl (by decide) (show _ = (0, 1) by kernel_rfl) (by decide) (fun _ _ h => h) (fun q h1 h2 => rfl) rfl (w93 rfl ?_)
  refine e_op (v := r.opn) (env' := _) rfl (by decide) (show _ = (0, 1) by kernel_rfl) (by decide) (fun _ _ h => h) (fun q h1 h2 => (match q, h1, h2 with | 0, _, _ => g_load hb0 rfl rfl | 1, _, _ => g_load hb0 rfl rfl | q + 2, _, h2 => absurd h2 (by omega))) rfl (w93 rfl ?_)
  refine e_op (v := .ptr w.lw 0 0) (env' := _) rfl (by decide) (show _ = (0, 0) by kernel_rfl) (by decide) (fun _ _ h => h) (fun q h1 h2 => rfl) rfl (w93 rfl ?_)
  refine e_callS (H0 := _) (H1 := (H ++ [VO.arr 93 10 [r.row]])) (env' := _) rfl rfl rfl (by kernel_rfl) rfl (show _ = (0, 1) by kernel_rfl) rfl rfl (sOpens G _ w s own hWx hS hus) rfl (w93 rfl ?_)
  refine e_callI rfl rfl rfl (by kernel_rfl) rfl (show _ = (1, 1) by kernel_rfl) (by decide) (fun q h1 h2 => mapL_cons hLo.lend (mapL_cons IsL_plist.lend rfl)) (sSameOpens G _ _ r.opens s.opens hLo IsL_plist hr.rows lrows_plist hr.len) rfl (w93 rfl ?_)
  refine e_op (env' := _) rfl (by decide) (show _ = (1, 1) by kernel_rfl) (by decide) (fun _ _ h => h) (fun q h1 h2 => rfl) rfl (w93 rfl ?_)
  refine e_end (H' := (H ++ [VO.arr 93 10 [r.row]])) rfl ?_
  refine vc_ret (r_then (r_fn rfl ?_))
  refine ⟨_, rfl, rfl, ?_⟩
  rw [follows_6 hv (eq_of_beq hc11)]
 have h6 : r.kind ≠ 6 := fun e => by rw [e] at hc11; cases hc11
 refine vc_skip (n_then (vs (vs (wr ?_))))
 refine wN (v := .ptr H.length 0 1) rfl rfl rfl (v93 rfl ?_)
 refine wN (v := .int .i64 r.unit) rfl (g_load hb0 rfl rfl) rfl (v93 rfl ?_)
 refine wN rfl rfl rfl (v93 rfl ?_)
 refine we rfl ?_
 refine vc_cond rfl (fun hc19 => ?_) (fun hc19 => ?_)
 ·
  refine vs (wr ?_)
  refine wN (v := .ptr H.length 0 0) rfl rfl rfl (v93 rfl ?_)
  refine wN (v := .int .i64 r.kind) rfl (g_load hb0 rfl rfl) rfl (v93 rfl ?_)
  iterate 2 refine wN rfl rfl rfl (v93 rfl ?_)
  refine we rfl (vc_ret (r_then (r_fn rfl ?_)))
  refine ⟨_, rfl, rfl, ?_⟩
  rw [follows_0 hv h6 (eq_of_beq hc19)]
 have h0 : r.unit ≠ 0 := fun e => by rw [e] at hc19; cases hc19
 refine vc_skip (n_then (vs (wr ?_)))
 refine wN (v := .ptr w.lw 0 0) rfl rfl rfl (v93 rfl ?_)
 refine wN (v := .ptr H.length 0 1) rfl rfl rfl (v93 rfl ?_)
 refine wN (v := .int .i64 r.unit) rfl (g_load hb0 rfl rfl) rfl (v93 rfl ?_)
 refine w_callS rfl rfl rfl (by kernel_rfl) rfl (sFind G _ w s own hWx hus r.unit) ?_
 rintro _ _ ⟨rfl, rfl⟩
 refine v93 rfl ?_
 refine wN rfl rfl rfl (v93 rfl ?_)
 refine we rfl (vs (vc_block (vs ?_)))
 rcases hWx.find r.unit with ⟨hf, hns⟩ | ⟨l, lv, hf, hs, hm, ho, hux⟩
 all_goals rw [hf]
 ·
  have hnew := hS.unseen _ hns
  have hu0 : (decide ((s.unit r.unit).stands ≥ 2) || ((s.unit r.unit).stands == 1 && (r.kind == 1 || r.kind == 5))) = false := by rw [hnew]; rfl
  refine wr ?_
  iterate 3 refine wN rfl rfl rfl (v93 rfl ?_)
  iterate 6 refine wS (wanted_f 30 (by kernel_rfl) rfl) (v93 rfl ?_)
  iterate 5 refine wS (wanted_k 36 (by kernel_rfl) rfl) (v93 rfl ?_)
  refine wS (wanted_f 30 (by kernel_rfl) rfl) (v93 rfl ?_)
  iterate 2 refine wN rfl rfl rfl (v93 rfl ?_)
  refine we rfl ?_
  refine vc_false rfl ?_
  refine vs (wr ?_)
  iterate 3 refine wN rfl rfl rfl (v93 rfl ?_)
  iterate 5 refine wS (wanted_f 47 (by kernel_rfl) rfl) (v93 rfl ?_)
  iterate 2 refine wN rfl rfl rfl (v93 rfl ?_)
  iterate 4 refine wS (wanted_f 54 (by kernel_rfl) rfl) (v93 rfl ?_)
  iterate 3 refine wS (wanted_k 58 (by kernel_rfl) rfl) (v93 rfl ?_)
  refine wS (wanted_f 54 (by kernel_rfl) rfl) (v93 rfl ?_)
  iterate 2 refine wN rfl rfl rfl (v93 rfl ?_)
  refine we rfl ?_
  refine vc_false rfl ?_
  refine vs (wr ?_)
  refine wN (v := .ptr H.length 0 0) rfl rfl rfl (v93 rfl ?_)
  refine wN (v := .int .i64 r.kind) rfl (g_load hb0 rfl rfl) rfl (v93 rfl ?_)
  iterate 2 refine wN rfl rfl rfl (v93 rfl ?_)
  refine we rfl ?_
  refine vc_cond rfl (fun hc64 => ?_) (fun hc64 => ?_)
  ·
   refine vs ?_
   have h1k : r.kind = 1 := eq_of_beq hc64
   refine wr ?_
   refine wN (v := .ptr w.lw 0 0) rfl rfl rfl (v93 rfl ?_)
   refine wN (v := .agg r.row) rfl (g_load hb0 rfl rfl) rfl (v93 rfl ?_)
   refine w_callS rfl rfl rfl (by kernel_rfl) rfl (sIsChange G _ w s own hWx hS hus r hr hin (valid_nb hv h1k)) ?_
   rintro _ _ ⟨rfl, rfl⟩
   refine v93 rfl ?_
   refine wN rfl rfl rfl (v93 rfl ?_)
   refine we rfl (vc_ret (r_block (r_then (r_fn rfl ?_))))
   refine ⟨_, rfl, rfl, ?_⟩
   have : s.follows r = s.changeOk r := by rw [follows_k (hv_guard hv h0 h6) hu0]; simp [St.kindOk, h1k]
   rw [this]
  have h1n : r.kind ≠ 1 := fun e => by rw [e] at hc64; cases hc64
  refine vs (wr ?_)
  refine wN (v := .ptr H.length 0 0) rfl rfl rfl (v93 rfl ?_)
  refine wN (v := .int .i64 r.kind) rfl (g_load hb0 rfl rfl) rfl (v93 rfl ?_)
  iterate 2 refine wN rfl rfl rfl (v93 rfl ?_)
  refine we rfl ?_
  refine vc_cond rfl (fun hc71 => ?_) (fun hc71 => ?_)
  ·
   refine vs ?_
   have h2k : r.kind = 2 := eq_of_beq hc71
   refine wr ?_
   refine wN (v := .ptr w.lw 0 0) rfl rfl rfl (v93 rfl ?_)
   refine wN rfl rfl rfl (v93 rfl ?_)
   refine wN (v := .agg r.row) rfl (g_load hb0 rfl rfl) rfl (v93 rfl ?_)
   refine w_callS rfl rfl rfl (by kernel_rfl) rfl (show XS Tryz.prog G 125 ([.ptr w.lw 0 0, _, .agg r.row] ++ []) _ _ from hf ▸ sIsUndone G _ w s own hWx hS r hr) ?_
   rintro _ _ ⟨rfl, rfl⟩
   refine v93 rfl ?_
   refine wN rfl rfl rfl (v93 rfl ?_)
   refine we rfl (vc_ret (r_block (r_then (r_fn rfl ?_))))
   refine ⟨_, rfl, rfl, ?_⟩
   have : s.follows r = s.undoneOk r := by rw [follows_k (hv_guard hv h0 h6) hu0]; simp [St.kindOk, h2k]
   rw [this]
  have h2n : r.kind ≠ 2 := fun e => by rw [e] at hc71; cases hc71
  refine vs (wr ?_)
  refine wN (v := .ptr H.length 0 0) rfl rfl rfl (v93 rfl ?_)
  refine wN (v := .int .i64 r.kind) rfl (g_load hb0 rfl rfl) rfl (v93 rfl ?_)
  iterate 2 refine wN rfl rfl rfl (v93 rfl ?_)
  refine we rfl ?_
  refine vc_cond rfl (fun hc79 => ?_) (fun hc79 => ?_)
  ·
   refine vs ?_
   have h4k : r.kind = 4 := eq_of_beq hc79
   refine wr ?_
   iterate 3 refine wN rfl rfl rfl (v93 rfl ?_)
   iterate 6 refine wS (wanted_f 85 (by kernel_rfl) rfl) (v93 rfl ?_)
   iterate 2 refine wN rfl rfl rfl (v93 rfl ?_)
   refine we rfl (vc_ret (r_block (r_then (r_fn rfl ?_))))
   refine ⟨_, rfl, rfl, ?_⟩
   have : s.follows r = true := by rw [follows_k (hv_guard hv h0 h6) hu0]; simp [St.kindOk, h4k, hnew, Un.new]
   rw [this]
  have h4n : r.kind ≠ 4 := fun e => by rw [e] at hc79; cases hc79
  refine vc_skip (n_block (n_then (vs (wr ?_))))
  refine wN rfl rfl rfl (v93 rfl ?_)
  refine we rfl (vc_ret (r_fn rfl ?_))
  refine ⟨_, rfl, rfl, ?_⟩
  have : s.follows r = true := by rw [follows_k (hv_guard hv h0 h6) hu0]; simp [St.kindOk, h1n, h2n, h4n, h6]
  rw [this]
 have hstd := hS.std r.unit
 refine wr ?_
 iterate 3 refine wN rfl rfl rfl (v93 rfl ?_)
 iterate 3 refine wN (wanted_t 30 (by kernel_rfl) rfl) rfl rfl (v93 rfl ?_)
 refine wN (v := .int .i64 (s.unit r.unit).stands) (wanted_t 30 (by kernel_rfl) rfl) (g_load hux.obj rfl rfl) rfl (v93 rfl ?_)
 iterate 2 refine wN (wanted_t 30 (by kernel_rfl) rfl) rfl rfl (v93 rfl ?_)
 apply w_or 6 36 (fun b => (rnone 36 ++ (rundef 6 ++ ([some (.bool b)] ++ (rnone 50))))) rfl
 ·
  intro hg36 hY36
  refine v93 rfl ?_
  iterate 5 refine wS (wanted_f 36 (by kernel_rfl) rfl) (v93 rfl ?_)
  refine wN (wanted_t 30 (by kernel_rfl) rfl) rfl rfl (v93 rfl ?_)
  refine hY36 _ ?_
  repeat' first | exact trivial | refine ⟨.inr rfl, ?_⟩ | refine ⟨.inl rfl, ?_⟩ | fail
 ·
  intro hg36 hY36
  refine v93 rfl ?_
  iterate 3 refine wN (wanted_t 36 (by kernel_rfl) rfl) rfl rfl (v93 rfl ?_)
  refine wN (v := .int .i64 (s.unit r.unit).stands) (wanted_t 36 (by kernel_rfl) rfl) (g_load hux.obj rfl rfl) rfl (v93 rfl ?_)
  refine wN (wanted_t 36 (by kernel_rfl) rfl) rfl rfl (v93 rfl ?_)
  refine wN (wanted_t 30 (by kernel_rfl) rfl) rfl rfl (v93 rfl ?_)
  refine hY36 _ ?_
  repeat' first | exact trivial | refine ⟨.inr rfl, ?_⟩ | refine ⟨.inl rfl, ?_⟩ | fail
 refine v93 rfl ?_
 iterate 2 refine wN rfl rfl rfl (v93 rfl ?_)
 refine we rfl ?_
 refine vc_cond rfl (fun hc27 => ?_) (fun hc27 => ?_)
 ·
  refine vs (wr ?_)
  refine wN rfl rfl rfl (v93 rfl ?_)
  refine we rfl (vc_ret (r_block (r_then (r_fn rfl ?_))))
  refine ⟨_, rfl, rfl, ?_⟩
  rw [follows_u hS.zero (by rw [Bool.or_eq_true]; left; simp at hc27 ⊢; omega)]
 refine vs (wr ?_)
 iterate 3 refine wN rfl rfl rfl (v93 rfl ?_)
 iterate 3 refine wN (wanted_t 47 (by kernel_rfl) rfl) rfl rfl (v93 rfl ?_)
 refine wN (v := .int .i64 (s.unit r.unit).stands) (wanted_t 47 (by kernel_rfl) rfl) (g_load hux.obj rfl rfl) rfl (v93 rfl ?_)
 refine wN (wanted_t 47 (by kernel_rfl) rfl) rfl rfl (v93 rfl ?_)
 iterate 2 refine wN rfl rfl rfl (v93 rfl ?_)
 apply w_and 9 54 (fun b => (rnone 54 ++ (rundef 9 ++ ([some (.bool b)] ++ (rnone 29))))) rfl
 ·
  intro hg54 hY54
  refine v93 rfl ?_
  refine wN (v := .ptr H.length 0 0) (wanted_t 54 (by kernel_rfl) rfl) rfl rfl (v93 rfl ?_)
  refine wN (v := .int .i64 r.kind) (wanted_t 54 (by kernel_rfl) rfl) (g_load hb0 rfl rfl) rfl (v93 rfl ?_)
  iterate 2 refine wN (wanted_t 54 (by kernel_rfl) rfl) rfl rfl (v93 rfl ?_)
  apply w_or 4 58 (fun b => (rnone 58 ++ (rundef 4 ++ ([some (.bool b)] ++ (rnone 30))))) rfl
  ·
   intro hg58 hY58
   refine v93 rfl ?_
   iterate 3 refine wS (wanted_f 58 (by kernel_rfl) rfl) (v93 rfl ?_)
   refine wN (wanted_t 54 (by kernel_rfl) rfl) rfl rfl (v93 rfl ?_)
   refine hY58 _ ?_
   repeat' first | exact trivial | refine ⟨.inr rfl, ?_⟩ | refine ⟨.inl rfl, ?_⟩ | fail
  ·
   intro hg58 hY58
   refine v93 rfl ?_
   refine wN (v := .ptr H.length 0 0) (wanted_t 58 (by kernel_rfl) rfl) rfl rfl (v93 rfl ?_)
   refine wN (v := .int .i64 r.kind) (wanted_t 58 (by kernel_rfl) rfl) (g_load hb0 rfl rfl) rfl (v93 rfl ?_)
   refine wN (wanted_t 58 (by kernel_rfl) rfl) rfl rfl (v93 rfl ?_)
   refine wN (wanted_t 54 (by kernel_rfl) rfl) rfl rfl (v93 rfl ?_)
   refine hY58 _ ?_
   repeat' first | exact trivial | refine ⟨.inr rfl, ?_⟩ | refine ⟨.inl rfl, ?_⟩ | fail
  refine v93 rfl ?_
  refine wN rfl rfl rfl (v93 rfl ?_)
  refine hY54 _ ?_
  repeat' first | exact trivial | refine ⟨.inr rfl, ?_⟩ | refine ⟨.inl rfl, ?_⟩ | fail
 ·
  intro hg54 hY54
  refine v93 rfl ?_
  iterate 4 refine wS (wanted_f 54 (by kernel_rfl) rfl) (v93 rfl ?_)
  iterate 3 refine wS (wanted_k 58 (by kernel_rfl) rfl) (v93 rfl ?_)
  refine wS (wanted_f 54 (by kernel_rfl) rfl) (v93 rfl ?_)
  refine wN rfl rfl rfl (v93 rfl ?_)
  refine hY54 _ ?_
  repeat' first | exact trivial | refine ⟨.inr rfl, ?_⟩ | refine ⟨.inl rfl, ?_⟩ | fail
 refine v93 rfl ?_
 refine wN rfl rfl rfl (v93 rfl ?_)
 refine we rfl ?_
 refine vc_cond rfl (fun hc44 => ?_) (fun hc44 => ?_)
 ·
  refine vs (wr ?_)
  refine wN rfl rfl rfl (v93 rfl ?_)
  refine we rfl (vc_ret (r_block (r_then (r_fn rfl ?_))))
  refine ⟨_, rfl, rfl, ?_⟩
  rw [follows_u hS.zero (by rw [Bool.or_eq_true]; right; exact hc44)]
 have hu0 : (decide ((s.unit r.unit).stands ≥ 2) || ((s.unit r.unit).stands == 1 && (r.kind == 1 || r.kind == 5))) = false := by
  rw [Bool.or_eq_false_iff]
  refine ⟨?_, hc44⟩
  simp at hc27 ⊢
  omega
 refine vs (wr ?_)
 refine wN (v := .ptr H.length 0 0) rfl rfl rfl (v93 rfl ?_)
 refine wN (v := .int .i64 r.kind) rfl (g_load hb0 rfl rfl) rfl (v93 rfl ?_)
 iterate 2 refine wN rfl rfl rfl (v93 rfl ?_)
 refine we rfl ?_
 refine vc_cond rfl (fun hc64 => ?_) (fun hc64 => ?_)
 ·
  refine vs ?_
  have h1k : r.kind = 1 := eq_of_beq hc64
  refine wr ?_
  refine wN (v := .ptr w.lw 0 0) rfl rfl rfl (v93 rfl ?_)
  refine wN (v := .agg r.row) rfl (g_load hb0 rfl rfl) rfl (v93 rfl ?_)
  refine w_callS rfl rfl rfl (by kernel_rfl) rfl (sIsChange G _ w s own hWx hS hus r hr hin (valid_nb hv h1k)) ?_
  rintro _ _ ⟨rfl, rfl⟩
  refine v93 rfl ?_
  refine wN rfl rfl rfl (v93 rfl ?_)
  refine we rfl (vc_ret (r_block (r_then (r_fn rfl ?_))))
  refine ⟨_, rfl, rfl, ?_⟩
  have : s.follows r = s.changeOk r := by rw [follows_k (hv_guard hv h0 h6) hu0]; simp [St.kindOk, h1k]
  rw [this]
 have h1n : r.kind ≠ 1 := fun e => by rw [e] at hc64; cases hc64
 refine vs (wr ?_)
 refine wN (v := .ptr H.length 0 0) rfl rfl rfl (v93 rfl ?_)
 refine wN (v := .int .i64 r.kind) rfl (g_load hb0 rfl rfl) rfl (v93 rfl ?_)
 iterate 2 refine wN rfl rfl rfl (v93 rfl ?_)
 refine we rfl ?_
 refine vc_cond rfl (fun hc71 => ?_) (fun hc71 => ?_)
 ·
  refine vs ?_
  have h2k : r.kind = 2 := eq_of_beq hc71
  refine wr ?_
  refine wN (v := .ptr w.lw 0 0) rfl rfl rfl (v93 rfl ?_)
  refine wN rfl rfl rfl (v93 rfl ?_)
  refine wN (v := .agg r.row) rfl (g_load hb0 rfl rfl) rfl (v93 rfl ?_)
  refine w_callS rfl rfl rfl (by kernel_rfl) rfl (show XS Tryz.prog G 125 ([.ptr w.lw 0 0, _, .agg r.row] ++ []) _ _ from hf ▸ sIsUndone G _ w s own hWx hS r hr) ?_
  rintro _ _ ⟨rfl, rfl⟩
  refine v93 rfl ?_
  refine wN rfl rfl rfl (v93 rfl ?_)
  refine we rfl (vc_ret (r_block (r_then (r_fn rfl ?_))))
  refine ⟨_, rfl, rfl, ?_⟩
  have : s.follows r = s.undoneOk r := by rw [follows_k (hv_guard hv h0 h6) hu0]; simp [St.kindOk, h2k]
  rw [this]
 have h2n : r.kind ≠ 2 := fun e => by rw [e] at hc71; cases hc71
 refine vs (wr ?_)
 refine wN (v := .ptr H.length 0 0) rfl rfl rfl (v93 rfl ?_)
 refine wN (v := .int .i64 r.kind) rfl (g_load hb0 rfl rfl) rfl (v93 rfl ?_)
 iterate 2 refine wN rfl rfl rfl (v93 rfl ?_)
 refine we rfl ?_
 refine vc_cond rfl (fun hc79 => ?_) (fun hc79 => ?_)
 ·
  refine vs ?_
  have h4k : r.kind = 4 := eq_of_beq hc79
  refine wr ?_
  iterate 3 refine wN rfl rfl rfl (v93 rfl ?_)
  iterate 3 refine wN (wanted_t 85 (by kernel_rfl) rfl) rfl rfl (v93 rfl ?_)
  refine wN (v := lv) (wanted_t 85 (by kernel_rfl) rfl) (g_load hux.obj rfl rfl) rfl (v93 rfl ?_)
  refine wN (v := .int .i64 (s.unit r.unit).left.length) (wanted_t 85 (by kernel_rfl) rfl) (rleft_len hux) rfl (v93 rfl ?_)
  refine wN (wanted_t 85 (by kernel_rfl) rfl) rfl rfl (v93 rfl ?_)
  iterate 2 refine wN rfl rfl rfl (v93 rfl ?_)
  refine we rfl (vc_ret (r_block (r_then (r_fn rfl ?_))))
  refine ⟨_, rfl, rfl, ?_⟩
  have : s.follows r = (((s.unit r.unit).left.length : Int) == 0) := by
   rw [follows_k (hv_guard hv h0 h6) hu0]
   simp only [St.kindOk, h4k]
   cases h : (s.unit r.unit).left <;> simp
   omega
  rw [this]
 have h4n : r.kind ≠ 4 := fun e => by rw [e] at hc79; cases hc79
 refine vc_skip (n_block (n_then (vs (wr ?_))))
 refine wN rfl rfl rfl (v93 rfl ?_)
 refine we rfl (vc_ret (r_fn rfl ?_))
 refine ⟨_, rfl, rfl, ?_⟩
 have : s.follows r = true := by rw [follows_k (hv_guard hv h0 h6) hu0]; simp [St.kindOk, h1n, h2n, h4n, h6]
 rw [this]
theorem sFollows (G : Glob) (H : Hp) (w : Rst) (s : St) (own : Nat → Own) (hW : RRep H w s own) (hS : StOk s) (hus : w.us.length ≤ 1000000) (r : Rc) (hr : r.Ok) : XS Tryz.prog G 96 [.ptr w.lw 0 0, .agg r.row] H (fun v H' => v = .bool (s.follows r) ∧ H' = H) :=
 XS.strip ((sFollowsW G H w s own hW hS hus r hr).mono fun v H' ⟨g, h1, h2, h3⟩ => ⟨g, h1, h2, h3, rfl⟩)
end Go.Vi
namespace Go.Vi
open Go Go.Vi Go.Proofs
attribute [local irreducible] vops vopsD vc
theorem el146 : elemAt Tryz.prog 146 = some (some 120, 3, 1) := by kernel_rfl
theorem sz144 : szOf Tryz.prog 144 = some 1 := by kernel_rfl
theorem g_sliceA1 {P : Program} {H : Hp} {t e : TypeId} {len sz l i k : Nat} {a : Int} (hu : P.underlying t = some (.array len e)) (hs : szOf P e = some sz) (h0 : 0 ≤ a) (ha : a ≤ len) : (vslice P H t (.ptr l i k) (some (.int .i64 a)) none none).map (·, H) = some (.sub l i (k + a.toNat * sz) sz (len - a.toNat), H) := by
 have hv : vbounds len (some (.int .i64 a)) none none = some (a.toNat, len, none) := by
  simp only [vbounds, bnd]
  have h2 : a.toNat ≤ len := by omega
  simp [h0, h2]
 simp only [vslice, hu, hs, hv]
 rfl
theorem g_copyS {P : Program} {H : Hp} {t T e : TypeId} {l k n sz : Nat} {cs : List AV} {rows' : List (List AV)} {x : AV} (he : elemAt P t = some (none, e, 1)) (h1 : H[l]? = some (.arr T sz [cs])) (hx : srcRows H x = some rows') (hl : lenOk 1 rows' = true) (hs : x.isStr = false) (hin : k + n ≤ cs.length) (hn : rows'.length ≤ n) :
 vcopy P H t (.sub l 0 k 1 n) x = some (.int .i64 (rows'.length : Nat), H.set l (.arr T sz [setC cs k rows'.flatten])) := by
 simp only [vcopy, he, hx]
 rw [if_pos ⟨hl, by decide, by simp [hs]⟩]
 simp only [h1, List.getElem?_cons_zero]
 rw [if_pos ⟨trivial, by omega⟩, Nat.min_eq_left hn, List.take_length]
 rfl
structure RA (H : Hp) (w : Rst) (own : Nat → Own) (r : Rc) (Hx : Hp) (wx : Rst) (ow : Nat → Own) (s' : St) (n : Nat) : Prop where
 lw : wx.lw = w.lw
 rep : RRep Hx wx s' ow
 box : Hx[H.length]? = some (.arr 93 10 [r.row])
 bno : ow H.length = .no
 fr : Fr H own Hx ow
 ln : wx.us.length ≤ n
theorem RA.blt {H : Hp} {w : Rst} {own : Nat → Own} {r : Rc} {Hx : Hp} {wx : Rst} {ow : Nat → Own} {s' : St} {n : Nat} (h : RA H w own r Hx wx ow s' n) : H.length < Hx.length := lt_of h.box
theorem RA.next {H : Hp} {w : Rst} {own : Nat → Own} {r : Rc} {Hx : Hp} {wx : Rst} {ow : Nat → Own} {s' : St} {n : Nat} (h : RA H w own r Hx wx ow s' n) {H2 : Hp} {w2 : Rst} {ow2 : Nat → Own} {s2 : St} {n2 : Nat} (hR : RRep H2 w2 s2 ow2) (hF : Fr Hx ow H2 ow2) (hlw : w2.lw = wx.lw) (hn : w2.us.length ≤ n2) : RA H w own r H2 w2 ow2 s2 n2 :=
 ⟨hlw.trans h.lw, hR, (hF.keep _ h.blt h.bno).trans h.box, (hF.own _ h.blt).trans h.bno, h.fr.trans hF, hn⟩
def St.rp (s : St) (r : Rc) : St where
 recs := s.recs ++ [r]
 page := if laysB r = true then (s.lay r).page else s.page
 stamp := if laysB r = true then (s.lay r).stamp else s.stamp
 unit := s.unit
def AddR (H : Hp) (w : Rst) (s : St) (own : Nat → Own) (r : Rc) (H' : Hp) : Prop := ∃ w' own', w'.lw = w.lw ∧ RRep H' w' (s.add r) own' ∧ Fr H own H' own' ∧ w'.us.length ≤ w.us.length + 1
theorem RA.done {H : Hp} {w : Rst} {own : Nat → Own} {r : Rc} {Hx : Hp} {wx : Rst} {ow : Nat → Own} {s s' : St} (h : RA H w own r Hx wx ow s' (w.us.length + 1)) (hs : s' = s.add r) : AddR H w s own r Hx := by
 subst hs; exact ⟨wx, ow, h.lw, h.rep, h.fr, h.ln⟩
def St.seenU (s : St) (k : Int) : Un := { s.unit k with seen := true }
theorem add_from {s : St} {r : Rc} {u : Un} (h0 : r.unit ≠ 0) (h7 : r.kind ≠ 7) (hu : u = { (s.unit r.unit).core r (s.recs.length + 1) with seen := true }) : { (s.rp r) with unit := fset (fset s.unit r.unit (s.seenU r.unit)) r.unit u } = s.add r := by
 subst hu
 unfold St.rp St.add Un.step
 have : (r.kind != 7) = true := by simpa [bne] using h7
 simp [h0, fset_fset, this]
theorem add_same {s : St} {r : Rc} (hu : ∀ n, (s.unit n).seen = false → s.unit n = Un.new) (h : r.unit = 0 ∨ r.kind = 7) : s.rp r = s.add r := by
 unfold St.rp St.add
 by_cases h0 : r.unit = 0
 · simp [h0]
 rw [if_neg h0, Un.step_note (h.resolve_left h0)]
 have : fset s.unit r.unit (s.unit r.unit) = s.unit := by
  funext x
  by_cases hx : x = r.unit
  · subst hx; simp [fset_self]
  simp [fset_ne hx]
 rw [this]
theorem follows_kind {s : St} {r : Rc} (hf : s.follows r = true) (h6 : 6 ≤ r.kind) : r.unit = 0 ∨ r.kind = 7 := by
 have hv := follows_valid hf
 by_cases h : r.kind = 6
 · exact .inl (valid_6 hv h)
 right
 rw [valid_eq] at hv
 simp only [validR, kindR] at hv
 by_cases h7 : r.kind = 7
 · exact h7
 have h1 : (r.kind == 1) = false := by simp; omega
 have h2 : (r.kind == 2) = false := by simp; omega
 have h3 : (r.kind == 3) = false := by simp; omega
 have h4 : (r.kind == 4) = false := by simp; omega
 have h5 : (r.kind == 5) = false := by simp; omega
 have h6 : (r.kind == 6) = false := by simp; omega
 have h7 : (r.kind == 7) = false := by simp; omega
 simp [h1, h2, h3, h4, h5, h6, h7] at hv
theorem follows_unit {s : St} {r : Rc} (hf : s.follows r = true) (h6 : r.kind < 6) : r.unit ≠ 0 := by
 intro h0
 have hv := follows_valid hf
 rw [follows_0 hv (by omega) h0] at hf
 have := eq_of_beq hf
 omega
theorem row_all {H : Hp} {l T sz : Nat} {rows : List (List AV)} {t : Bool} (h : H[l]? = some (.arr T sz rows)) : srcRows H (.row t l 0 rows.length) = some rows := by
 show rowsOf H (.row t l 0 rows.length) = some rows
 simp only [rowsOf, h]
 rw [if_pos (by omega), List.drop_zero, List.take_length]
theorem RA.conv {H : Hp} {w : Rst} {own : Nat → Own} {r : Rc} {Hx : Hp} {wx : Rst} {ow : Nat → Own} {s1 s2 : St} {n : Nat} (h : RA H w own r Hx wx ow s1 n) (hs : s1 = s2) : RA H w own r Hx wx ow s2 n := by subst hs; exact h
theorem RA.up {H : Hp} {w : Rst} {own : Nat → Own} {r : Rc} {Hx : Hp} {wx : Rst} {ow : Nat → Own} {s1 : St} {n m : Nat} (h : RA H w own r Hx wx ow s1 n) (hn : n ≤ m) : RA H w own r Hx wx ow s1 m := { h with ln := Nat.le_trans h.ln hn }
theorem follows_kindOk {s : St} {r : Rc} (hf : s.follows r = true) : s.kindOk r = true := by
 simp only [St.follows, Bool.and_eq_true] at hf; exact hf.2
theorem undone_left {s : St} {r : Rc} (hf : s.follows r = true) (h2 : r.kind = 2) : (s.unit r.unit).left ≠ [] := by
 have := follows_kindOk hf
 intro e
 simp [St.kindOk, h2, undone_none e] at this
theorem left_of {H : Hp} {own : Nat → Own} {k : Int} {l : Nat} {lv : AV} {u : Un} (h : UnR H own k l lv u) (hne : u.left ≠ []) : ∃ L rows0, lv = .row false L 0 u.left.length ∧ own L = .left k ∧ H[L]? = some (.arr 3 1 rows0) ∧ rows0.take u.left.length = u.left.map iRow := by
 obtain ⟨L, rows0, h1, h2, h3, h4, h5⟩ := rleft_at h (i := u.left.length - 1) (List.getElem?_eq_getElem (by have := List.length_pos_iff.2 hne; omega))
 exact ⟨L, rows0, h1, h4, h2, h5⟩
theorem ra_new {H : Hp} {w : Rst} {own : Nat → Own} {r : Rc} {Hx H7 : Hp} {wx : Rst} {ow : Nat → Own} {s s1 : St} {n m : Nat} (h : RA H w own r Hx wx ow s1 n) (hns : (s1.unit r.unit).seen = false) (hnew : s.seenU r.unit = { Un.new with seen := true }) (hsu : s1.unit = s.unit) (hl : H7.length = Hx.length + 3) (hm : m = wx.us.length + 1)
 (h2 : H7[Hx.length + 2]? = some (.arr 168 1 (wx.us.map uRow ++ [[.ptr Hx.length 0 0]]))) (h3 : ∀ x, x < (Hx ++ [VO.arr 171 4 [[.int .i64 r.unit, .int .i64 0, .nils, .str ⟨#[]⟩]]] ++ [VO.arr 168 1 [[.ptr Hx.length 0 0]]]).length → ow x ≠ .mu → H7[x]? = (Hx ++ [VO.arr 171 4 [[.int .i64 r.unit, .int .i64 0, .nils, .str ⟨#[]⟩]]] ++ [VO.arr 168 1 [[.ptr Hx.length 0 0]]])[x]?) :
 RA H w own r (H7.set wx.lw (.arr 148 15482 [setC wx.cs 1 [.row false (Hx.length + 2) 0 m]])) { wx with uv := .row false (Hx.length + 2) 0 m, cs := setC wx.cs 1 [.row false (Hx.length + 2) 0 m], us := wx.us ++ [(r.unit, Hx.length)] } (own2 ow Hx.length (.unit r.unit) (Hx.length + 2) .mu) { s1 with unit := fset s.unit r.unit (s.seenU r.unit) } (n + 1) ∧
  (r.unit, Hx.length) ∈ wx.us ++ [(r.unit, Hx.length)] := by
 have ho : H7[Hx.length]? = some (.arr 171 4 [[.int .i64 r.unit, .int .i64 0, .nils, .str ⟨#[]⟩]]) := by
  rw [h3 _ (by simp) (by rw [h.rep.no]; simp)]
  exact get_app get_last
 obtain ⟨k1, k2⟩ := h.rep.unitNew hns hm (Nat.le_refl _) (by omega) (by omega) (by omega) (by omega) ho h2 (fun x hx hn => by
  rw [h3 x (by simp; omega) hn, List.getElem?_append_left (by simp; omega), List.getElem?_append_left hx])
 rw [← hnew, hsu] at k1
 exact ⟨h.next k1 k2 rfl (by have := h.ln; simp; omega), by simp⟩
theorem seen_same {s : St} {k : Int} (h : (s.unit k).seen = true) : fset s.unit k (s.seenU k) = s.unit := by
 have : s.seenU k = s.unit k := by unfold St.seenU; rw [← h]
 funext x
 by_cases hx : x = k
 · subst hx; rw [fset_self, this]
 rw [fset_ne hx]
set_option maxHeartbeats 8000000 in
theorem sAddR (G : Glob) (H : Hp) (w : Rst) (s : St) (own : Nat → Own) (hW : RRep H w s own) (hS : StOk s) (hus : w.us.length ≤ 1000000) (r : Rc) (hr : r.Ok) (hf : s.follows r = true) (hlen : s.recs.length < 1000000) : XS Tryz.prog G 97 [.ptr w.lw 0 0, .agg r.row] H (fun _ H' => AddR H w s own r H') := by
 have hLb := hr.bef.1
 have hLa := hr.aft.1
 have hLo := hr.opn
 have hbb := hr.bef.2.1
 have hab := hr.aft.2.1
 have hxt := hr.txt
 have hlen := hr.len
 have hol : (lrows r.opn).length = r.opens.length := by rw [hr.rows]; simp
 have hin := validP_in (follows_valid hf)
 have hp0 := hin.p0
 have hp1 := hin.p1
 have hg0 := hin.g0
 have hg1 := hin.g1
 have hna : r.na = (lrows r.aft).length := rfl
 have hb0 : (H ++ [VO.arr 93 10 [r.row]])[H.length]? = some (VO.arr 93 10 [r.row]) := get_last
 have hWx : RRep (H ++ [VO.arr 93 10 [r.row]]) w s own := hW.app _
 have hno := hW.no
 have hstd := hS.std r.unit
 have hleft := hS.left r.unit
 obtain ⟨H1, hQ, hQl, hQr, hQk⟩ := grow_app (P := Tryz.prog) (t := 43) (t2 := 43) (x := .list .tight [r.row]) (news := [r.row]) hWx.rh el43b Tryz.underlying43 rfl zc93 by93 rfl rfl (by decide) (by decide) rfl rfl (by simp) (by simp only [List.length_map, List.length_singleton]; omega)
 rw [List.length_map] at hQ
 refine xs_body (fun o => match o.op with | .call ⟨.value _, _, _⟩ => .shr | .call ⟨.builtin .append, _, _⟩ => .shr | .buildSlice t _ _ => if t = 144 then .shr else .iso | _ => .iso) Tryz.func97 rfl ?_
 refine vc_norm (env' := (_ :: _ :: _ :: _ :: _ :: _ :: _ :: _ :: _ :: _ :: _ :: _ :: _ :: _ :: _ :: _ :: _ :: _ :: _ :: _ :: _ :: _ :: _ :: _ :: _ :: _ :: _ :: _ :: _ :: _ :: _ :: _ :: _ :: _ :: _ :: _ :: _ :: _ :: _ :: _ :: _ :: _ :: _ :: _ :: _ :: _ :: _ :: _ :: _ :: _ :: _ :: _ :: _ :: _ :: _ :: _ :: _ :: _ :: _ :: _ :: _ :: _ :: _ :: _ :: _ :: _ :: _ :: _ :: _ :: _ :: _ :: _ :: _ :: _ :: _ :: _ :: _ :: _ :: _ :: _ :: _ :: _ :: _ :: _ :: _ :: _ :: _ :: _ :: _ :: _ :: _ :: _ :: _ :: _ :: _ :: _ :: _ :: _ :: _ :: _ :: _ :: _ :: _ :: _ :: _ :: _ :: _ :: _ :: _ :: _ :: _ :: _ :: _ :: _ :: _ :: _ :: _ :: _ :: _ :: _ :: _ :: [])) (H' := _) rfl rfl ?_
 refine vs (wr ?_)
 refine w_opH (v := .ptr H.length 0 0) (env' := _) (H2 := (H ++ [VO.arr 93 10 [r.row]])) rfl (g_box (x := .agg r.row) rfl rfl) rfl (rfl) (fun _ h => h) (v121 rfl ?_)
 refine we rfl (vs (w_regionD (by kernel_rfl) ?_))
 iterate 2 refine dN (v := .ptr w.lw 0 0) rfl rfl rfl (d121 rfl ?_)
 iterate 2 refine dN rfl rfl rfl (d121 rfl ?_)
 refine dN (v := w.rv) rfl (g_loadW hWx.wh hWx.row.c0 ag43) rfl (d121 rfl ?_)
 refine dN (v := .agg r.row) rfl (g_load hb0 rfl rfl) rfl (d121 rfl ?_)
 refine dN (v := .list .tight [r.row]) rfl (g_buildL el43b zc93 ⟨rfl, by decide, by decide⟩ rfl rfl hr.val) rfl (d121 rfl ?_)
 refine d_opH (v := .row false (H ++ [VO.arr 93 10 [r.row]]).length 0 (s.recs.length + 1)) (env' := _) (H2 := H1) rfl (hQ) (.inl rfl) rfl (rfl) (fun _ h => h) (d121 rfl ?_)
 iterate 2 refine dN rfl rfl rfl (d121 rfl ?_)
 refine d_op0 (H2 := (H1.set w.lw (.arr 148 15482 [setC w.cs 0 [.row false (H ++ [VO.arr 93 10 [r.row]]).length 0 (s.recs.length + 1)]]))) rfl (g_store ((hQk w.lw (lt_of hWx.wh) (by rw [hWx.wo]; simp)).trans hWx.wh) rfl rfl sz43 ⟨rfl, by have := hWx.row.len; simp; omega, by decide⟩) (.inl rfl) (rfl) (fun _ h => h) ?_
 refine d_end rfl (vs ?_)
 obtain ⟨k1, k2⟩ := hWx.recPush hr hQl hQr hQk
 have hR1 : RA H w own r _ { w with rv := .row false (H ++ [VO.arr 93 10 [r.row]]).length 0 (s.recs.length + 1), cs := setC w.cs 0 [.row false (H ++ [VO.arr 93 10 [r.row]]).length 0 (s.recs.length + 1)] } _ { s with recs := s.recs ++ [r] } w.us.length := ⟨rfl, k1, (k2.keep _ (by simp) hno).trans hb0, (k2.own _ (by simp)).trans hno, (Fr.app H [VO.arr 93 10 [r.row]] own).trans k2, Nat.le_refl _⟩
 clear k1 k2
 generalize hH2 : (H1.set w.lw (.arr 148 15482 [setC w.cs 0 [.row false (H ++ [VO.arr 93 10 [r.row]]).length 0 (s.recs.length + 1)]])) = H2 at hR1 ⊢
 refine wr ?_
 refine wN (v := .ptr w.lw 0 0) rfl rfl rfl (v121 rfl ?_)
 iterate 2 refine wN rfl rfl rfl (v121 rfl ?_)
 refine wN (v := .row false (H ++ [VO.arr 93 10 [r.row]]).length 0 (s.recs.length + 1)) rfl (g_loadW hR1.rep.wh hR1.rep.row.c0 ag43) rfl (v121 rfl ?_)
 refine wN (v := .int .i64 ((s.recs.length : Int) + 1)) rfl (rfl) rfl (v121 rfl ?_)
 refine wN rfl rfl rfl (v121 rfl ?_)
 refine we rfl ?_
 refine vc_meet (α := { a : Hp × Rst × (Nat → Own) // RA H w own r a.1 a.2.1 a.2.2 (s.rp r) w.us.length }) (fun a => (rnone 21 ++ (rundef 27 ++ (rnone 73)))) (fun a => a.1.1) ?_ ?_
 ·
  intro Mo3 hMo3
  refine vs (wr ?_)
  refine wN (v := .ptr H.length 0 0) rfl rfl rfl (v121 rfl ?_)
  refine wN (v := .int .i64 r.kind) rfl (g_load hR1.box rfl rfl) rfl (v121 rfl ?_)
  iterate 2 refine wN rfl rfl rfl (v121 rfl ?_)
  apply w_or 4 24 (fun b => (rnone 24 ++ (rundef 4 ++ ([some (.bool b)] ++ (rnone 92))))) rfl
  ·
   intro hg24 hY24
   refine v121 rfl ?_
   iterate 3 refine wS (wanted_f 24 (by kernel_rfl) rfl) (v121 rfl ?_)
   refine wN rfl rfl rfl (v121 rfl ?_)
   refine hY24 _ ?_
   repeat' first | exact trivial | refine ⟨.inr rfl, ?_⟩ | refine ⟨.inl rfl, ?_⟩ | fail
  ·
   intro hg24 hY24
   refine v121 rfl ?_
   refine wN (v := .ptr H.length 0 0) (wanted_t 24 (by kernel_rfl) rfl) rfl rfl (v121 rfl ?_)
   refine wN (v := .int .i64 r.kind) (wanted_t 24 (by kernel_rfl) rfl) (g_load hR1.box rfl rfl) rfl (v121 rfl ?_)
   refine wN (wanted_t 24 (by kernel_rfl) rfl) rfl rfl (v121 rfl ?_)
   refine wN rfl rfl rfl (v121 rfl ?_)
   refine hY24 _ ?_
   repeat' first | exact trivial | refine ⟨.inr rfl, ?_⟩ | refine ⟨.inl rfl, ?_⟩ | fail
  refine v121 rfl ?_
  refine we rfl ?_
  refine vc_cond rfl (fun hc28 => ?_) (fun hc28 => ?_)
  ·
   have hly : laysB r = true := hc28
   refine vs ?_
   have hR2 := hR1.next (hR1.rep.lay (p := r.page.toNat) (pos := r.pos.toNat) (by omega) hr.aft.2.2 (by omega)) (Fr.set (by rw [hR1.rep.wo]; simp)) rfl hR1.ln
   have hpn : ((r.page.toNat : Nat) : Int) = r.page := by omega
   refine w_regionD (by kernel_rfl) ?_
   refine dN (v := .ptr w.lw 0 0) rfl rfl rfl (d121 rfl ?_)
   refine dN (v := .ptr H.length 0 2) rfl rfl rfl (d121 rfl ?_)
   refine dN (v := .int .i64 r.page) rfl (g_load hR1.box rfl rfl) rfl (d121 rfl ?_)
   iterate 2 refine dN rfl rfl rfl (d121 rfl ?_)
   refine dN (v := .ptr w.lw 0 (2 + r.page.toNat * 128)) rfl (g_indexA el145 hg0 hg1) rfl (d121 rfl ?_)
   refine dN (v := .ptr H.length 0 3) rfl rfl rfl (d121 rfl ?_)
   refine dN (v := .int .i64 r.pos) rfl (g_load hR1.box rfl rfl) rfl (d121 rfl ?_)
   refine dN (v := .sub w.lw 0 (2 + r.page.toNat * 128 + r.pos.toNat) 1 (128 - r.pos.toNat)) rfl ((by have := g_sliceA1 (H := H2) (l := w.lw) (i := 0) (k := 2 + r.page.toNat * 128) (a := r.pos) Tryz.underlying109 sz5 hp0 (by omega); rw [Nat.mul_one] at this; exact this)) rfl (d121 rfl ?_)
   refine dN (v := .ptr H.length 0 5) rfl rfl rfl (d121 rfl ?_)
   refine dN (v := r.aft) rfl (g_load hR1.box rfl rfl) rfl (d121 rfl ?_)
   refine d_opH (v := .int .i64 ((lrows r.aft).length : Nat)) (env' := _) (H2 := _) rfl (g_copyS (T := 148) (sz := 15482) el68 hR1.rep.wh (srcL hLa) (byt_len hr.aft) (isL_str hLa) (by have := hR1.rep.row.len; omega) (by omega)) (.inl rfl) rfl (rfl) (fun _ h => h) (d121 rfl ?_)
   refine d_end rfl ?_
   have hR3 := hR2.next (hR2.rep.stamp (p := r.page.toNat) (n := (s.recs.length : Int) + 1) (by omega)) (Fr.set (by rw [hR2.rep.wo]; simp)) rfl hR2.ln
   refine w_regionD (by kernel_rfl) ?_
   refine dN (v := .ptr w.lw 0 0) rfl rfl rfl (d121 rfl ?_)
   refine dN (v := .ptr H.length 0 2) rfl rfl rfl (d121 rfl ?_)
   refine dN (v := .int .i64 r.page) rfl (g_load hR2.box rfl rfl) rfl (d121 rfl ?_)
   iterate 3 refine dN rfl rfl rfl (d121 rfl ?_)
   refine dN (v := .ptr w.lw 0 (15362 + r.page.toNat)) rfl ((by rw [show 15362 + r.page.toNat = 15362 + r.page.toNat * 1 by omega]; exact g_indexA el146 hg0 hg1)) rfl (d121 rfl ?_)
   refine d_op0 (H2 := _) rfl (g_store hR2.rep.wh rfl rfl sz3 ⟨rfl, Nat.le_trans (by omega : 15362 + r.page.toNat + 1 ≤ 15482) (Nat.le_of_eq hR2.rep.row.len.symm), by decide⟩) (.inl rfl) (rfl) (fun _ h => h) ?_
   refine d_end rfl ?_
   refine hMo3 ⟨(_, _, _), hR3.conv (by simp [St.rp, hly, St.lay, hpn])⟩ _ _ (by first | exact hR3.fr.len | exact hR1.fr.len) rfl ?_
   repeat' first | exact trivial | refine ⟨.inr rfl, ?_⟩ | refine ⟨.inl rfl, ?_⟩ | refine ⟨.inl ?_, ?_⟩ | fail
  have hly : laysB r = false := hc28
  refine vc_skip (n_then ?_)
  refine hMo3 ⟨(_, _, _), hR1.conv (by simp [St.rp, hly])⟩ _ _ (by first | exact hR3.fr.len | exact hR1.fr.len) rfl ?_
  repeat' first | exact trivial | refine ⟨.inr rfl, ?_⟩ | refine ⟨.inl rfl, ?_⟩ | refine ⟨.inl ?_, ?_⟩ | fail
 rintro ⟨⟨Hx, wx, ow⟩, hA⟩ hnbo3
 refine vc_norm (env' := (_ :: _ :: _ :: _ :: _ :: _ :: _ :: _ :: _ :: _ :: _ :: _ :: _ :: _ :: _ :: _ :: _ :: _ :: _ :: _ :: _ :: _ :: _ :: _ :: _ :: _ :: _ :: _ :: _ :: _ :: _ :: _ :: _ :: _ :: _ :: _ :: _ :: _ :: _ :: _ :: _ :: _ :: _ :: _ :: _ :: _ :: _ :: _ :: _ :: _ :: _ :: _ :: _ :: _ :: _ :: _ :: _ :: _ :: _ :: _ :: _ :: _ :: _ :: _ :: _ :: _ :: _ :: _ :: _ :: _ :: _ :: _ :: _ :: _ :: _ :: _ :: _ :: _ :: _ :: _ :: _ :: _ :: _ :: _ :: _ :: _ :: _ :: _ :: _ :: _ :: _ :: _ :: _ :: _ :: _ :: _ :: _ :: _ :: _ :: _ :: _ :: _ :: _ :: _ :: _ :: _ :: _ :: _ :: _ :: _ :: _ :: _ :: _ :: _ :: _ :: _ :: _ :: _ :: _ :: _ :: _ :: [])) (H' := Hx) rfl rfl ?_
 replace hA : RA H w own r Hx wx ow (s.rp r) w.us.length := hA
 rw [← hA.lw]
 refine vs (vs (wr ?_))
 refine wN (v := .ptr H.length 0 0) rfl rfl rfl (v121 rfl ?_)
 refine wN (v := .int .i64 r.kind) rfl (g_load hA.box rfl rfl) rfl (v121 rfl ?_)
 refine wN rfl rfl rfl (v121 rfl ?_)
 refine we rfl ?_
 refine vc_cond rfl (fun hc50 => ?_) (fun hc50 => ?_)
 ·
  refine vc_ret (r_then (r_fn rfl ?_))
  exact (hA.up (by omega)).done (add_same hS.unseen (follows_kind hf (of_decide_eq_true hc50)))
 have hk6 : r.kind < 6 := by have := of_decide_eq_false hc50; omega
 have hun := follows_unit hf hk6
 refine vc_skip (n_then (vs (wr ?_)))
 refine wN (v := .ptr wx.lw 0 0) rfl rfl rfl (v121 rfl ?_)
 refine wN (v := .ptr H.length 0 1) rfl rfl rfl (v121 rfl ?_)
 refine wN (v := .int .i64 r.unit) rfl (g_load hA.box rfl rfl) rfl (v121 rfl ?_)
 refine w_callS rfl rfl rfl (by kernel_rfl) rfl (sFind G _ wx (s.rp r) ow hA.rep (by have := hA.ln; omega) r.unit) ?_
 rintro _ Hz ⟨rfl, hHz⟩
 rw [hHz]
 refine v121 rfl ?_
 refine wN rfl rfl rfl (v121 rfl ?_)
 refine we rfl ?_
 refine vc_meet (α := { a : Hp × Rst × (Nat → Own) × Nat // RA H w own r a.1 a.2.1 a.2.2.1 { s.rp r with unit := fset s.unit r.unit (s.seenU r.unit) } (w.us.length + 1) ∧ (r.unit, a.2.2.2) ∈ a.2.1.us }) (fun a => (rnone 5 ++ ([some (.ptr a.1.2.2.2 0 0)] ++ (rnone 49 ++ (rundef 16 ++ (rnone 50)))))) (fun a => a.1.1) ?_ ?_
 ·
  intro Mo8 hMo8
  refine vs ?_
  rcases hA.rep.find r.unit with ⟨hfn, hns⟩ | ⟨l, lv, hfn, hs, hm, ho, hux⟩
  all_goals rw [hfn]
  ·
   refine wr ?_
   iterate 2 refine wN rfl rfl rfl (v121 rfl ?_)
   refine we rfl ?_
   refine vc_true rfl ?_
   refine vs (wr ?_)
   refine wN (v := .ptr H.length 0 1) rfl rfl rfl (v121 rfl ?_)
   refine wN (v := .int .i64 r.unit) rfl (g_load hA.box rfl rfl) rfl (v121 rfl ?_)
   refine wN (v := .agg [_, _, _, _]) rfl rfl rfl (v121 rfl ?_)
   refine w_opH (v := .ptr Hx.length 0 0) (env' := _) (H2 := (Hx ++ [VO.arr 171 4 [[.int .i64 r.unit, .int .i64 0, .nils, .str ⟨#[]⟩]]])) rfl (g_box (x := .agg [.int .i64 r.unit, .int .i64 0, .nils, .str ⟨#[]⟩]) rfl rfl) rfl (rfl) (fun _ h => h) (v121 rfl ?_)
   refine wN (v := .ptr Hx.length 0 0) rfl rfl rfl (v121 rfl ?_)
   refine we rfl ?_
   have hV0 := (hA.rep.app [VO.arr 171 4 [[.int .i64 r.unit, .int .i64 0, .nils, .str ⟨#[]⟩]]]).app [VO.arr 168 1 [[.ptr Hx.length 0 0]]]
   have huln := hA.ln
   obtain ⟨H7, hV, hVl, hVr, hVk⟩ := grow_app (P := Tryz.prog) (t := 144) (t2 := 144) (x := .row true (Hx.length + 1) 0 1) (news := [[.ptr Hx.length 0 0]]) hV0.uh el144 Tryz.underlying144 rfl zc168 by168 (row_all (rows := [[.ptr Hx.length 0 0]]) (get_lastn (by simp))) rfl (by decide) (by decide) rfl rfl (by simp) (by simp only [List.length_map, List.length_singleton]; omega)
   simp only [List.length_map, List.length_singleton, List.length_append] at hV hVl hVr
   refine wr ?_
   iterate 2 refine wN (v := .ptr wx.lw 0 0) rfl rfl rfl (v121 rfl ?_)
   iterate 2 refine wN rfl rfl rfl (v121 rfl ?_)
   refine wN (v := wx.uv) rfl (g_loadW (get_app hA.rep.wh) hA.rep.row.c1 ag144) rfl (v121 rfl ?_)
   refine wN (v := .ptr Hx.length 0 0) rfl rfl rfl (v121 rfl ?_)
   refine w_opH (v := .row true (Hx.length + 1) 0 1) (env' := _) (H2 := (Hx ++ [VO.arr 171 4 [[.int .i64 r.unit, .int .i64 0, .nils, .str ⟨#[]⟩]]] ++ [VO.arr 168 1 [[.ptr Hx.length 0 0]]])) rfl (g_build1 (x := .ptr Hx.length 0 0) (cs := [.ptr Hx.length 0 0]) el144 zc168 ⟨rfl, by decide, by decide⟩ rfl rfl (show (Hx ++ [VO.arr 171 4 [[.int .i64 r.unit, .int .i64 0, .nils, .str ⟨#[]⟩]]]).length = Hx.length + 1 by simp)) rfl (rfl) (fun _ h => h) (v121 rfl ?_)
   refine w_opH (v := .row false (Hx.length + 2) 0 (wx.us.length + 1)) (env' := _) (H2 := H7) rfl (hV) rfl (rfl) (fun _ h => h) (v121 rfl ?_)
   iterate 2 refine wN rfl rfl rfl (v121 rfl ?_)
   refine w_op0N (H2 := (H7.set wx.lw (.arr 148 15482 [setC wx.cs 1 [.row false (Hx.length + 2) 0 (wx.us.length + 1)]]))) rfl (g_store ((hVk wx.lw (by have := lt_of hA.rep.wh; simp; omega) (by rw [hA.rep.wo]; simp)).trans (get_app (get_app hA.rep.wh))) rfl rfl sz144 ⟨rfl, by have := hA.rep.row.len; simp; omega, by decide⟩) (rfl) (fun _ h => h) ?_
   have hK1 := ra_new (s := s) hA hns (by unfold St.seenU; rw [show s.unit r.unit = Un.new from hS.unseen _ hns]) rfl hVl rfl hVr hVk
   refine we rfl ?_
   refine hMo8 ⟨(_, _, _, _), hK1⟩ _ _ (by first | exact hK1.1.fr.len | exact hK2.1.fr.len) rfl ?_
   repeat' first | exact trivial | refine ⟨.inr rfl, ?_⟩ | refine ⟨.inl rfl, ?_⟩ | refine ⟨.inl ?_, ?_⟩ | fail
   all_goals first | exact hfn
  have hK2 : RA H w own r Hx wx ow { s.rp r with unit := fset s.unit r.unit (s.seenU r.unit) } (w.us.length + 1) ∧ (r.unit, l) ∈ wx.us := ⟨(hA.up (by omega)).conv (by rw [seen_same (s := s) hs]; rfl), hm⟩
  refine wr ?_
  iterate 2 refine wN rfl rfl rfl (v121 rfl ?_)
  refine we rfl ?_
  refine vc_false rfl ?_
  refine vc_skip (n_then ?_)
  refine hMo8 ⟨(_, _, _, _), hK2⟩ _ _ (by first | exact hK1.1.fr.len | exact hK2.1.fr.len) rfl ?_
  repeat' first | exact trivial | refine ⟨.inr rfl, ?_⟩ | refine ⟨.inl rfl, ?_⟩ | refine ⟨.inl ?_, ?_⟩ | fail
  all_goals first | exact hfn
 rintro ⟨⟨Hy, wy, owy, l⟩, hB, hm⟩ hnbo8
 refine vc_norm (env' := (_ :: _ :: _ :: _ :: _ :: (.ptr l 0 0) :: _ :: _ :: _ :: _ :: _ :: _ :: _ :: _ :: _ :: _ :: _ :: _ :: _ :: _ :: _ :: _ :: _ :: _ :: _ :: _ :: _ :: _ :: _ :: _ :: _ :: _ :: _ :: _ :: _ :: _ :: _ :: _ :: _ :: _ :: _ :: _ :: _ :: _ :: _ :: _ :: _ :: _ :: _ :: _ :: _ :: _ :: _ :: _ :: _ :: _ :: _ :: _ :: _ :: _ :: _ :: _ :: _ :: _ :: _ :: _ :: _ :: _ :: _ :: _ :: _ :: _ :: _ :: _ :: _ :: _ :: _ :: _ :: _ :: _ :: _ :: _ :: _ :: _ :: _ :: _ :: _ :: _ :: _ :: _ :: _ :: _ :: _ :: _ :: _ :: _ :: _ :: _ :: _ :: _ :: _ :: _ :: _ :: _ :: _ :: _ :: _ :: _ :: _ :: _ :: _ :: _ :: _ :: _ :: _ :: _ :: _ :: _ :: _ :: _ :: _ :: [])) (H' := Hy) rfl rfl ?_
 replace hB : RA H w own r Hy wy owy { s.rp r with unit := fset s.unit r.unit (s.seenU r.unit) } (w.us.length + 1) := hB
 replace hm : (r.unit, l) ∈ wy.us := hm
 rw [hA.lw, ← hB.lw]
 refine vs ?_
 obtain ⟨ho, lv, hu0⟩ := hB.rep.un _ hm
 have hu : UnR Hy owy r.unit l lv (s.seenU r.unit) := by have h := hu0; simp only [fset_self] at h; exact h
 clear hu0
 have hll : (s.seenU r.unit).left.length ≤ s.recs.length := hleft
 have hlb : l ≠ H.length := fun e => by rw [e, hB.bno] at ho; cases ho
 refine wr ?_
 refine wN (v := .ptr H.length 0 0) rfl rfl rfl (v121 rfl ?_)
 refine wN (v := .int .i64 r.kind) rfl (g_load hB.box rfl rfl) rfl (v121 rfl ?_)
 refine we rfl (vc_block (vs (wr ?_)))
 iterate 2 refine wN rfl rfl rfl (v121 rfl ?_)
 refine we rfl ?_
 refine vc_cond rfl (fun hc73 => ?_) (fun hc73 => ?_)
 ·
  have h1k : r.kind = 1 := eq_of_beq hc73
  obtain ⟨H8, hL, hLl, hLr, hLk⟩ := grow_app (P := Tryz.prog) (t := 35) (t2 := 35) (x := .list .tight [[.int .i64 ((s.recs.length : Int) + 1)]]) (news := [[.int .i64 ((s.recs.length : Int) + 1)]]) hu.left el35 Tryz.underlying35 rfl zc3z by3z rfl rfl (by decide) (by decide) rfl rfl (by simp) (by simp only [List.length_map, List.length_singleton]; show ((s.unit r.unit).left.length + 1) * 8 ≤ _; omega)
  simp only [List.length_map, List.length_singleton] at hL
  refine wr ?_
  iterate 4 refine wN rfl rfl rfl (v121 rfl ?_)
  refine wN (v := lv) rfl (g_load hu.obj rfl rfl) rfl (v121 rfl ?_)
  iterate 2 refine wN rfl rfl rfl (v121 rfl ?_)
  refine w_opH (v := .row false Hy.length 0 ((s.seenU r.unit).left.length + 1)) (env' := _) (H2 := H8) rfl (hL) rfl (rfl) (fun _ h => h) (v121 rfl ?_)
  iterate 2 refine wN rfl rfl rfl (v121 rfl ?_)
  refine w_op0N (H2 := (H8.set l (.arr 171 4 [unRowR r.unit { (s.seenU r.unit) with left := (s.seenU r.unit).left ++ [(s.recs.length : Int) + 1] } (.row false Hy.length 0 ((s.seenU r.unit).left.length + 1))]))) rfl (g_store ((hLk l (lt_of hu.obj) (by rw [ho]; simp)).trans hu.obj) rfl rfl sz35 ⟨rfl, by simp, by decide⟩) (rfl) (fun _ h => h) ?_
  refine w_endB rfl (n_fn rfl ?_)
  obtain ⟨k1, k2⟩ := hB.rep.leftPush (n := (s.seenU r.unit).left.length + 1) (u := { (s.seenU r.unit) with left := (s.seenU r.unit).left ++ [(s.recs.length : Int) + 1] }) (by simp) hm rfl hLl hLr hLk (by simp [iRow])
  exact (hB.next k1 k2 rfl hB.ln).done (add_from hun (by omega) (by simp [Un.core, St.seenU, h1k]))
 refine vs (wr ?_)
 iterate 2 refine wN rfl rfl rfl (v121 rfl ?_)
 refine we rfl ?_
 refine vc_cond rfl (fun hc85 => ?_) (fun hc85 => ?_)
 ·
  have h2k : r.kind = 2 := eq_of_beq hc85
  have hne := undone_left hf h2k
  have hpos : 0 < (s.seenU r.unit).left.length := List.length_pos_iff.2 hne
  obtain ⟨L, rows0, rfl, hLo, hL1, hLt⟩ := left_of hu hne
  refine w_regionD (by kernel_rfl) ?_
  iterate 4 refine dN rfl rfl rfl (d121 rfl ?_)
  refine dN (v := .row false L 0 (s.seenU r.unit).left.length) rfl (g_load hu.obj rfl rfl) rfl (d121 rfl ?_)
  iterate 3 refine dN rfl rfl rfl (d121 rfl ?_)
  refine dN (v := .row false L 0 (s.seenU r.unit).left.length) rfl (g_load hu.obj rfl rfl) rfl (d121 rfl ?_)
  refine dN (v := .int .i64 (s.seenU r.unit).left.length) rfl (rfl) rfl (d121 rfl ?_)
  refine dN (v := .int .i64 (((s.seenU r.unit).left.length : Int) - 1)) rfl (int_eq (i64_small (by omega) (by omega))) rfl (d121 rfl ?_)
  refine dN (v := .row false L 0 (s.seenU r.unit).left.dropLast.length) rfl (g_cut (e := 3) Tryz.underlying35 sz3 hL1 (by simp; omega)) rfl (d121 rfl ?_)
  iterate 2 refine dN rfl rfl rfl (d121 rfl ?_)
  refine d_op0 (H2 := (Hy.set l (.arr 171 4 [unRowR r.unit { (s.seenU r.unit) with left := (s.seenU r.unit).left.dropLast } (.row false L 0 (s.seenU r.unit).left.dropLast.length)]))) rfl (g_store hu.obj rfl rfl sz35 ⟨rfl, by simp, by decide⟩) (.inl rfl) (rfl) (fun _ h => h) ?_
  refine d_endB rfl (n_fn rfl ?_)
  have hg : GrowIs Hy owy (.left r.unit) 3 1 (.row false L 0 (s.seenU r.unit).left.dropLast.length) (({ (s.seenU r.unit) with left := (s.seenU r.unit).left.dropLast } : Un).left.map iRow) := by
   have hgc := GrowIs.cut (rows := (s.seenU r.unit).left.map iRow) (k := (s.seenU r.unit).left.dropLast.length) hLo hL1 (by rw [List.length_map]; exact hLt) (by simp)
   rw [show ((s.seenU r.unit).left.map iRow).take (s.seenU r.unit).left.dropLast.length = (s.seenU r.unit).left.dropLast.map iRow by rw [← List.map_take, List.dropLast_eq_take]; simp] at hgc
   exact hgc
  have k1 := hB.rep.unitPut (u := { (s.seenU r.unit) with left := (s.seenU r.unit).left.dropLast }) hm rfl hg
  exact (hB.next k1 (Fr.set (by rw [ho]; simp)) rfl hB.ln).done (add_from hun (by omega) (by simp [Un.core, St.seenU, h2k]))
 refine vs (wr ?_)
 iterate 2 refine wN rfl rfl rfl (v121 rfl ?_)
 refine we rfl ?_
 refine vc_cond rfl (fun hc101 => ?_) (fun hc101 => ?_)
 ·
  have h3k : r.kind = 3 := eq_of_beq hc101
  refine wr ?_
  iterate 3 refine wN rfl rfl rfl (v121 rfl ?_)
  refine w_op0N (H2 := (Hy.set l (.arr 171 4 [unRowR r.unit { (s.seenU r.unit) with stands := 2 } lv]))) rfl (g_store hu.obj rfl rfl sz3 ⟨rfl, by simp, by decide⟩) (rfl) (fun _ h => h) ?_
  refine w_endB rfl (n_fn rfl ?_)
  have k1 := hB.rep.unitPut (u := { (s.seenU r.unit) with stands := 2 }) hm rfl hu.left
  exact (hB.next k1 (Fr.set (by rw [ho]; simp)) rfl hB.ln).done (add_from hun (by omega) (by simp [Un.core, St.seenU, h3k]))
 refine vs (wr ?_)
 iterate 2 refine wN rfl rfl rfl (v121 rfl ?_)
 refine we rfl ?_
 refine vc_cond rfl (fun hc106 => ?_) (fun hc106 => ?_)
 ·
  have h4k : r.kind = 4 := eq_of_beq hc106
  refine wr ?_
  iterate 3 refine wN rfl rfl rfl (v121 rfl ?_)
  refine w_op0N (H2 := (Hy.set l (.arr 171 4 [unRowR r.unit { (s.seenU r.unit) with stands := 3 } lv]))) rfl (g_store hu.obj rfl rfl sz3 ⟨rfl, by simp, by decide⟩) (rfl) (fun _ h => h) ?_
  refine w_endB rfl (n_fn rfl ?_)
  have k1 := hB.rep.unitPut (u := { (s.seenU r.unit) with stands := 3 }) hm rfl hu.left
  exact (hB.next k1 (Fr.set (by rw [ho]; simp)) rfl hB.ln).done (add_from hun (by omega) (by simp [Un.core, St.seenU, h4k]))
 refine vs (wr ?_)
 iterate 2 refine wN rfl rfl rfl (v121 rfl ?_)
 refine we rfl ?_
 refine vc_cond rfl (fun hc111 => ?_) (fun hc111 => ?_)
 ·
  have h5k : r.kind = 5 := eq_of_beq hc111
  refine w_regionW [(Hy.set l (.arr 171 4 [unRowR r.unit { (s.seenU r.unit) with stands := 1 } lv])), ((Hy.set l (.arr 171 4 [unRowR r.unit { (s.seenU r.unit) with stands := 1 } lv])).set l (.arr 171 4 [unRowR r.unit { (s.seenU r.unit) with stands := 1, ready := r.text } lv]))] (by kernel_rfl) ?_
  refine e_op (env' := _) rfl (by decide) (show _ = (0, 0) by kernel_rfl) (by decide) (fun _ _ h => h) (fun q h1 h2 => rfl) rfl (w121 rfl ?_)
  refine e_op (env' := _) rfl (by decide) (show _ = (0, 1) by kernel_rfl) (by decide) (fun _ _ h => h) (fun q h1 h2 => rfl) rfl (w121 rfl ?_)
  refine e_op (v := .ptr H.length 0 8) (env' := _) rfl (by decide) (show _ = (0, 1) by kernel_rfl) (by decide) (fun _ _ h => h) (fun q h1 h2 => rfl) rfl (w121 rfl ?_)
  refine e_op (v := .str r.text) (env' := _) rfl (by decide) (show _ = (0, 1) by kernel_rfl) (by decide) (fun _ _ h => h) (fun q h1 h2 => (match q, h1, h2 with | 0, _, _ => g_load hB.box rfl rfl | 1, _, _ => g_load (get_set hB.box hlb) rfl rfl | q + 2, _, h2 => absurd h2 (by omega))) rfl (w121 rfl ?_)
  iterate 2 refine e_op (env' := _) rfl (by decide) (show _ = (0, 0) by kernel_rfl) (by decide) (fun _ _ h => h) (fun q h1 h2 => rfl) rfl (w121 rfl ?_)
  refine e_eff0 (H0 := _) (H1 := (Hy.set l (.arr 171 4 [unRowR r.unit { (s.seenU r.unit) with stands := 1 } lv]))) rfl rfl (show _ = (0, 1) by kernel_rfl) rfl rfl (fun _ _ h => h) (g_store (i := 0) (k := 1) (x := .int .i64 1) (cs := [.int .i64 1]) hu.obj rfl rfl sz3 ⟨rfl, by simp, by decide⟩) ?_
  iterate 2 refine e_op (env' := _) rfl (by decide) (show _ = (1, 1) by kernel_rfl) (by decide) (fun _ _ h => h) (fun q h1 h2 => rfl) rfl (w121 rfl ?_)
  refine e_eff0 (H0 := (Hy.set l (.arr 171 4 [unRowR r.unit { (s.seenU r.unit) with stands := 1 } lv]))) (H1 := ((Hy.set l (.arr 171 4 [unRowR r.unit { (s.seenU r.unit) with stands := 1 } lv])).set l (.arr 171 4 [unRowR r.unit { (s.seenU r.unit) with stands := 1, ready := r.text } lv]))) rfl rfl (show _ = (1, 2) by kernel_rfl) rfl rfl (fun _ _ h => h) (g_store (i := 0) (k := 3) (x := .str r.text) (cs := [.str r.text]) (rows := [unRowR r.unit { (s.seenU r.unit) with stands := 1 } lv]) (get_self hu.obj) rfl rfl sz9 ⟨rfl, by simp [unRowR], by decide⟩) ?_
  refine e_endB (H' := ((Hy.set l (.arr 171 4 [unRowR r.unit { (s.seenU r.unit) with stands := 1 } lv])).set l (.arr 171 4 [unRowR r.unit { (s.seenU r.unit) with stands := 1, ready := r.text } lv]))) rfl ?_
  refine n_fn rfl ?_
  rw [List.set_set]
  have k1 := hB.rep.unitPut (u := { (s.seenU r.unit) with stands := 1, ready := r.text }) hm rfl hu.left
  exact (hB.next k1 (Fr.set (by rw [ho]; simp)) rfl hB.ln).done (add_from hun (by omega) (by simp [Un.core, St.seenU, h5k]))
 refine vc_skip (n_block (n_fn rfl ?_))
 have h1n : r.kind ≠ 1 := fun e => by rw [e] at hc73; cases hc73
 have h2n : r.kind ≠ 2 := fun e => by rw [e] at hc85; cases hc85
 have h3n : r.kind ≠ 3 := fun e => by rw [e] at hc101; cases hc101
 have h4n : r.kind ≠ 4 := fun e => by rw [e] at hc106; cases hc106
 have h5n : r.kind ≠ 5 := fun e => by rw [e] at hc111; cases hc111
 have := add_from (s := s) (u := s.seenU r.unit) hun (show r.kind ≠ 7 by omega) (by simp [Un.core, St.seenU, h1n, h2n, h3n, h4n, h5n])
 rw [fset_fset] at this
 exact hB.done this
end Go.Vi
namespace Go.Vi
open Go Go.Vi Go.Proofs
attribute [local irreducible] vops vopsD vc
theorem of_snoc {s : St} {l : List Rc} {i : Nat} {r : Rc} {s' : St} (h : s.of (l.take i) = some s') (hr : l[i]? = some r) : s.of (l.take (i + 1)) = if s'.follows r = true then some (s'.add r) else none := by
 rw [List.take_add_one, hr]
 have key : ∀ (m : List Rc) (s : St), s.of m = some s' → s.of (m ++ [r]) = if s'.follows r = true then some (s'.add r) else none := by
  intro m
  induction m with
  | nil => intro s h; simp only [St.of] at h; cases h; simp only [List.nil_append, St.of]
  | cons q m ih =>
    intro s h
    simp only [St.of, List.cons_append] at h ⊢
    split at h
    · rename_i hq; rw [if_pos hq]; exact ih _ h
    cases h
 exact key _ _ h
theorem of_none : ∀ {l : List Rc} {s : St} (i : Nat), s.of (l.take i) = none → s.of l = none
 | [], s, i, h => by simp [St.of] at h
 | r :: l, s, 0, h => by simp [St.of] at h
 | r :: l, s, i + 1, h => by
   simp only [List.take_succ_cons, St.of] at h ⊢
   split
   · rename_i hq; rw [if_pos hq] at h; exact of_none i h
   rfl
theorem of_recs : ∀ {l : List Rc} {s s' : St}, s.of l = some s' → s'.recs = s.recs ++ l
 | [], s, s', h => by simp only [St.of] at h; cases h; simp
 | r :: l, s, s', h => by
   simp only [St.of] at h
   split at h
   · have := of_recs h; simpa [St.add] using this
   cases h
structure OfI (H : Hp) (l : List Rc) (i : Nat) (Hx : Hp) (w : Pst) (own : Nat → Own) (s : St) : Prop where
 le : i ≤ l.length
 lw : w.lw = H.length + 3
 rep : WRep Hx w s own
 ok : StOk s
 keys : KeysOk w s.recs.length
 wl : rlen w.wv ≤ s.recs.length
 eq : St.new.of (l.take i) = some s
 fr : Fr H (fun _ => .no) Hx own
theorem OfI.zero (H : Hp) (l : List Rc) : OfI H l 0 (newH H H.length) (newPst H.length) (newOwn H.length) St.new where
 le := Nat.zero_le _
 lw := rfl
 rep := WRep.new rfl
 ok := StOk.new
 keys := ⟨fun e h => (by cases h), Nat.le_refl _⟩
 wl := Nat.le_refl _
 eq := by simp [St.of]
 fr := ⟨by simp [newH], fun x hx _ => newH_old rfl hx, fun x hx => newOwn_old hx⟩
theorem OfI.len {H Hx : Hp} {l : List Rc} {i : Nat} {w : Pst} {own : Nat → Own} {s : St} (h : OfI H l i Hx w own s) : s.recs.length = i := by
 have h1 := of_recs h.eq
 have h2 := congrArg List.length h1
 have := h.le
 simp [St.new] at h2
 omega
theorem OfI.next {H Hx H2 : Hp} {l : List Rc} {i : Nat} {w : Pst} {own own2 : Nat → Own} {s : St} {r : Rc} (h : OfI H l i Hx w own s) (hr : l[i]? = some r) (hf : s.follows r = true) {w2 : Pst} (hlw : w2.lw = w.lw) (hR : WRep H2 w2 (s.add r) own2) (hk : KeysOk w2 (s.recs.length + 1)) (hwl : rlen w2.wv ≤ s.recs.length + 1) (hF : Fr Hx own H2 own2) (hl : l.length ≤ 1000000) : OfI H l (i + 1) H2 w2 own2 (s.add r) where
 le := (List.getElem?_eq_some_iff.1 hr).1
 lw := hlw.trans h.lw
 rep := hR
 ok := h.ok.add hf (by have := h.len; have := (List.getElem?_eq_some_iff.1 hr).1; omega)
 keys := by simpa [St.add] using hk
 wl := by simpa [St.add] using hwl
 eq := by rw [of_snoc h.eq hr, if_pos hf]
 fr := h.fr.trans hF
def OfEnd (H : Hp) (l : List Rc) (v : AV) (H' : Hp) : Prop := ∃ own, Fr H (fun _ => .no) H' own ∧ ((St.new.of l = none ∧ v = .nilp) ∨ ∃ w s, St.new.of l = some s ∧ StOk s ∧ v = .ptr w.lw 0 0 ∧ WRep H' w s own)
set_option maxHeartbeats 4000000 in
theorem sOf (G : Glob) (H : Hp) (x : AV) (l : List Rc) (hx : Recs x l) (hl : l.length ≤ 1000000) : XS Tryz.prog G 93 [x] H (OfEnd H l) := by
 have hL := hx.isL
 have hxl : (lrows x).length = l.length := by rw [hx.rows]; simp
 refine xs_body (fun o => match o.op with | .call ⟨.value _, _, _⟩ => .shr | _ => .iso) Tryz.func93 rfl ?_
 refine vc_norm (env' := [_, _, _, _, _, _, _, _, _, _, _, _, _, _, _, _, _, _, _]) (H' := _) rfl rfl ?_
 refine vs (wr ?_)
 refine wN rfl rfl rfl (v19 rfl ?_)
 refine we rfl (vs (wr ?_))
 refine w_callS rfl rfl rfl (by kernel_rfl) rfl (sNewWorld G H) ?_
 rintro _ _ ⟨rfl, rfl⟩
 refine v19 rfl ?_
 refine wN (v := .ptr (H.length + 3) 0 0) rfl rfl rfl (v19 rfl ?_)
 refine we rfl (vs (vs (wr ?_)))
 refine wN rfl rfl rfl (v19 rfl ?_)
 first | refine wN rfl rfl rfl (v19 rfl ?_) | refine x_len rfl rfl ‹_› Tryz.underlying43 rfl (v19 rfl ?_)
 refine wN rfl rfl rfl (v19 rfl ?_)
 refine we rfl (vc_block ?_)
 refine vc_loopX (α := { a : Nat × Hp × Pst × (Nat → Own) × St // OfI H l a.1 a.2.1 a.2.2.1 a.2.2.2.1 a.2.2.2.2 }) (fun a => ([none, none, some .undef, none, none, some .undef, none, none, none, some (.int .i64 (a.1.1 : Nat))] ++ (rundef 8 ++ ([none])))) (fun a => a.1.2.1) (fun a => l.length - a.1.1) ⟨(0, newH H H.length, newPst H.length, newOwn H.length, St.new), OfI.zero H l⟩ (by repeat' first | exact trivial | refine ⟨.inr rfl, ?_⟩ | refine ⟨.inl rfl, ?_⟩ | fail) rfl ?_
 rintro ⟨⟨i, Hx, w, own, s⟩, hI⟩ Y0 hY0
 refine vc_norm (env' := [_, _, _, _, _, _, _, _, _, .int .i64 (i : Int), _, _, _, _, _, _, _, _, _]) (H' := Hx) rfl rfl ?_
 replace hI : OfI H l i Hx w own s := hI
 refine vs (wr ?_)
 refine wN rfl rfl rfl (v19 rfl ?_)
 refine we rfl (vs ?_)
 refine vc_cond rfl (fun hc10 => ?_) (fun hc10 => ?_)
 ·
  have hlt : i < l.length := by have := of_decide_eq_true hc10; omega
  obtain ⟨r, hr⟩ : ∃ r, l[i]? = some r := ⟨_, List.getElem?_eq_getElem hlt⟩
  have hri := hx.at hr
  have hOk := hx.ok r (List.mem_of_getElem? hr)
  refine vc_skip (n_then (vs (vc_block (vs (wr ?_)))))
  first | refine wN (v := .iptr _ [_, _, _, _, _, _, _, _, _, _]) rfl rfl rfl (v19 rfl ?_) | (refine x_index rfl rfl ‹_› rfl el43 (by omega) ‹_› rfl (fun bo => ?_); refine v19 rfl ?_)
  refine wN (v := .agg r.row) rfl (rfl) rfl (v19 rfl ?_)
  refine w_opH (v := .ptr Hx.length 0 0) (env' := _) (H2 := Hx ++ [VO.arr 93 10 [[.int .i64 0, .int .i64 0, .int .i64 0, .int .i64 0, .nils, .nils, .int .i64 0, .int .i64 0, .str ⟨#[]⟩, .nils]]]) rfl (g_alloc zr93b rfl rfl) rfl (rfl) (fun _ h => h) (v19 rfl ?_)
  refine w_op0N (H2 := Hx ++ [VO.arr 93 10 [r.row]]) rfl (g_store get_last rfl rfl sz93 ⟨rfl, by simp [Rc.row], by decide⟩) (set_last) (fun _ h => h) ?_
  refine we rfl (vs (wr ?_))
  refine wN (v := .ptr (H.length + 3) 0 0) rfl rfl rfl (v19 rfl ?_)
  refine wN (v := .agg r.row) rfl (g_load get_last rfl rfl) rfl (v19 rfl ?_)
  have hadd := sAdd G _ w s own (hI.rep.app [VO.arr 93 10 [r.row]]) hI.ok hI.keys hI.wl r hOk (by have := hI.len; omega)
  rw [hI.lw] at hadd
  refine w_callS rfl rfl rfl (by kernel_rfl) rfl hadd ?_
  rintro _ H2 ⟨own2, rfl, hF2, hW2⟩
  refine v19 rfl ?_
  refine wN rfl rfl rfl (v19 rfl ?_)
  refine we rfl ?_
  refine vc_cond rfl (fun hc16 => ?_) (fun hc16 => ?_)
  ·
   refine vs (wr ?_)
   refine wN rfl rfl rfl (v19 rfl ?_)
   refine we rfl (vc_ret (r_block (r_then (r_then (r_block (r_then (r_fn rfl ?_)))))))
   have hf : s.follows r = false := by simpa using hc16
   refine ⟨own2, (hI.fr.trans (Fr.app Hx [VO.arr 93 10 [r.row]] own)).trans hF2, .inl ⟨of_none (i + 1) (by rw [of_snoc hI.eq hr, if_neg (by rw [hf]; decide)]), rfl⟩⟩
  have hf : s.follows r = true := by simpa using hc16
  obtain ⟨w2, hlw2, hR2, hk2, hwl2⟩ := hW2 hf
  refine vc_skip (n_block (n_then (wr ?_)))
  iterate 2 refine wN rfl rfl rfl (v19 rfl ?_)
  refine we rfl ?_
  refine hY0 ⟨(i + 1, H2, w2, own2, s.add r), hI.next hr hf hlw2 hR2 hk2 hwl2 ((Fr.app Hx [VO.arr 93 10 [r.row]] own).trans hF2) hl⟩ (by simp only; omega) _ _ ?_ rfl
  repeat' first | exact trivial | refine ⟨.inr rfl, ?_⟩ | refine ⟨.inl rfl, ?_⟩ | refine ⟨.inl ?_, ?_⟩ | fail
  all_goals first | exact (int_succ (by omega)).symm
 have hge : l.length ≤ i := by have := of_decide_eq_false hc10; omega
 refine vc_exit (x_then (x_then (x_same (n_then (vs (wr ?_))))))
 iterate 2 refine wN (v := .ptr (H.length + 3) 0 0) rfl rfl rfl (v19 rfl ?_)
 refine we rfl (vc_ret (r_fn rfl ?_))
 have heq := hI.eq
 rw [List.take_of_length_le hge] at heq
 exact ⟨own, hI.fr, .inr ⟨w, s, heq, hI.ok, by rw [hI.lw], hI.rep⟩⟩
set_option maxHeartbeats 4000000 in
theorem sSound (G : Glob) (x : AV) (l : List Rc) (hx : Recs x l) (hl : l.length ≤ 1000000) : Vi.Fn Tryz.prog G 54 [x] (.bool (soundR l)) := by
 refine fn_body (fun o => match o.op with | .call ⟨.value _, _, _⟩ => .shr | _ => .iso) Tryz.func54 rfl ?_
 refine vc_norm (env' := [_, _, _, _, _, _]) (H' := []) rfl rfl ?_
 refine vs (wr ?_)
 refine wN rfl rfl rfl (v6 rfl ?_)
 refine we rfl (vs (wr ?_))
 refine wN rfl rfl rfl (v6 rfl ?_)
 refine w_callS rfl rfl rfl (by kernel_rfl) rfl (sOf G [] x l hx hl) ?_
 rintro v H1 ⟨own, hF, hv⟩
 refine v6 rfl ?_
 rcases hv with ⟨he, rfl⟩ | ⟨w, s, he, _, rfl, _⟩
 ·
  iterate 2 refine wN rfl rfl rfl (v6 rfl ?_)
  refine we rfl (vc_ret (r_fn rfl ?_))
  show some (AV.bool false) = some (AV.bool (soundR l))
  rw [soundR, he]
  rfl
 iterate 2 refine wN rfl rfl rfl (v6 rfl ?_)
 refine we rfl (vc_ret (r_fn rfl ?_))
 show some (AV.bool true) = some (AV.bool (soundR l))
 rw [soundR, he]
 rfl
end Go.Vi
namespace Go.Vi
open Go Go.Vi Go.Proofs
attribute [local irreducible] vops vopsD vc
def z148 : List AV := .nils :: .nils :: (List.replicate 15360 (.int .u8 0) ++ List.replicate 120 (.int .i64 0))
theorem z148_len : z148.length = 15482 := by
 show (List.replicate 15360 _ ++ List.replicate 120 _).length + 1 + 1 = 15482
 rw [List.length_append, List.length_replicate, List.length_replicate]
theorem build148 : vbuild Tryz.prog 148 [] = some (.agg z148) := by kernel_rfl
theorem z148_row : WRow z148 .nils .nils St.new where
 len := z148_len
 c0 := rfl
 c1 := rfl
 byt p i x hp hi := by
  have hil : i < 128 := by have h := (List.getElem?_eq_some_iff.1 hi).1; rw [show (St.new.page p).length = 128 from List.length_replicate ..] at h; exact h
  have hx : x = .int .u8 0 := by
   have h := List.eq_of_mem_replicate (List.mem_of_getElem? hi)
   cases h
   rfl
  subst hx
  rw [z148, show 2 + p * 128 + i = (p * 128 + i) + 1 + 1 by omega, List.getElem?_cons_succ, List.getElem?_cons_succ, List.getElem?_append_left (by rw [List.length_replicate]; omega), List.getElem?_replicate, if_pos (by omega)]
 stm p hp := by
  rw [z148, show 15362 + p = (15360 + p) + 1 + 1 by omega, List.getElem?_cons_succ, List.getElem?_cons_succ, List.getElem?_append_right (by rw [List.length_replicate]; omega), List.getElem?_replicate, if_pos (by rw [List.length_replicate]; omega)]
  rfl
attribute [local irreducible] z148
def wOwn (n : Nat) (l : Nat) : Own := if l = n then .world else .no
structure WkI (H : Hp) (l : List Rc) (i : Nat) (Hx : Hp) (w : Rst) (own : Nat → Own) (s : St) : Prop where
 le : i ≤ l.length
 lw : w.lw = H.length
 rep : RRep Hx w s own
 ok : StOk s
 us : w.us.length ≤ i
 eq : St.new.of (l.take i) = some s
 fr : Fr H (fun _ => .no) Hx own
theorem WkI.zero (H : Hp) (l : List Rc) : WkI H l 0 (H ++ [.arr 148 15482 [z148]]) ⟨H.length, .nils, .nils, z148, []⟩ (wOwn H.length) St.new where
 le := Nat.zero_le _
 lw := rfl
 rep := ⟨fun l hl => by rw [List.length_append, List.length_singleton] at hl; simp only [wOwn]; rw [if_neg (by omega)], if_pos rfl, get_last, z148_row, .inl ⟨rfl, rfl⟩, .inl ⟨rfl, rfl⟩, fun p hp => (by cases hp), List.nodup_nil, fun k => by simp [St.new, Un.new], PgOk.new, fun r hr => (by cases hr)⟩
 ok := StOk.new
 us := Nat.le_refl _
 eq := by simp [St.of]
 fr := ⟨by rw [List.length_append]; omega, fun x hx _ => List.getElem?_append_left hx, fun x hx => by simp only [wOwn]; rw [if_neg (by omega)]⟩
theorem WkI.len {H Hx : Hp} {l : List Rc} {i : Nat} {w : Rst} {own : Nat → Own} {s : St} (h : WkI H l i Hx w own s) : s.recs.length = i := by
 have h1 := of_recs h.eq
 have h2 := congrArg List.length h1
 have := h.le
 simp [St.new] at h2
 omega
theorem ret_tup3 {H : Hp} {x y z x' y' z' : AV} (h1 : ret1 H x = some x') (h2 : ret1 H y = some y') (h3 : ret1 H z = some z') : retv H (.tup [x, y, z]) = some (.tup [x', y', z']) := by
 simp only [retv, mapL, h1, h2, h3, Option.map_some]
def WkEnd (H : Hp) (l : List Rc) (v : AV) (H' : Hp) : Prop := ∃ own, Fr H (fun _ => .no) H' own ∧ ((St.new.of l = none ∧ v = .nilp) ∨ ∃ w s, St.new.of l = some s ∧ StOk s ∧ v = .ptr w.lw 0 0 ∧ RRep H' w s own)
set_option maxHeartbeats 8000000 in
theorem sWalk (G : Glob) (H : Hp) (x : AV) (l : List Rc) (hx : Recs x l) (hl : l.length ≤ 1000000) : XS Tryz.prog G 65 [x] H (WkEnd H l) := by
 have hL := hx.isL
 have hxl : (lrows x).length = l.length := by rw [hx.rows]; simp
 refine xs_body (fun o => match o.op with | .call ⟨.value (.func f), _, _⟩ => if f = 94 then .iso else .shr | .call ⟨.builtin .append, _, _⟩ => .shr | _ => .iso) Tryz.func65 rfl ?_
 refine vc_norm (env' := (_ :: _ :: _ :: _ :: _ :: _ :: _ :: _ :: _ :: _ :: _ :: _ :: _ :: _ :: _ :: _ :: _ :: _ :: _ :: _ :: _ :: _ :: _ :: _ :: _ :: _ :: _ :: _ :: _ :: _ :: [])) (H' := _) rfl rfl ?_
 refine vs (wr ?_)
 refine wN rfl rfl rfl (v30 rfl ?_)
 refine we rfl (vs (vs (wr ?_)))
 refine wN rfl rfl rfl (v30 rfl ?_)
 first | refine wN rfl rfl rfl (v30 rfl ?_) | refine x_len rfl rfl ‹_› Tryz.underlying43 rfl (v30 rfl ?_)
 refine wN rfl rfl rfl (v30 rfl ?_)
 refine we rfl ?_
 refine vc_cond rfl (fun hc7 => ?_) (fun hc7 => ?_)
 ·
  have := of_decide_eq_true hc7; omega
 refine vc_skip (n_then (vs (wr ?_)))
 refine wN (v := .agg z148) rfl (mapS build148) rfl (v30 rfl ?_)
 refine w_opH (v := .ptr H.length 0 0) (env' := _) (H2 := _) rfl (g_box (x := .agg z148) rfl rfl) rfl (rfl) (fun _ h => h) (v30 rfl ?_)
 rw [z148_len]
 refine wN (v := .ptr H.length 0 0) rfl rfl rfl (v30 rfl ?_)
 refine we rfl (vs (vs (wr ?_)))
 refine wN rfl rfl rfl (v30 rfl ?_)
 refine we rfl (vc_block ?_)
 refine vc_loopX (α := { a : Nat × Hp × Rst × (Nat → Own) × St // WkI H l a.1 a.2.1 a.2.2.1 a.2.2.2.1 a.2.2.2.2 }) (fun a => ([none, none, some .undef, none, some (.int .i64 (a.1.1 : Nat))] ++ (rnone 5 ++ (rundef 19 ++ ([none]))))) (fun a => a.1.2.1) (fun a => l.length - a.1.1) ⟨(0, _, _, _, _), WkI.zero H l⟩ (by repeat' first | exact trivial | refine ⟨.inr rfl, ?_⟩ | refine ⟨.inl rfl, ?_⟩ | fail) rfl ?_
 rintro ⟨⟨i, Hx, w, own, s⟩, hI⟩ Y0 hY0
 refine vc_norm (env' := (_ :: _ :: _ :: _ :: (.int .i64 (i : Int)) :: _ :: _ :: _ :: _ :: _ :: _ :: _ :: _ :: _ :: _ :: _ :: _ :: _ :: _ :: _ :: _ :: _ :: _ :: _ :: _ :: _ :: _ :: _ :: _ :: _ :: [])) (H' := Hx) rfl rfl ?_
 replace hI : WkI H l i Hx w own s := hI
 refine vs (vs (wr ?_))
 iterate 2 refine wN rfl rfl rfl (v30 rfl ?_)
 first | refine wN rfl rfl rfl (v30 rfl ?_) | refine x_len rfl rfl ‹_› Tryz.underlying43 rfl (v30 rfl ?_)
 refine wN rfl rfl rfl (v30 rfl ?_)
 refine we rfl ?_
 refine vc_cond rfl (fun hc13 => ?_) (fun hc13 => ?_)
 ·
  have hlt : i < l.length := by have := of_decide_eq_true hc13; omega
  obtain ⟨r, hr⟩ : ∃ r, l[i]? = some r := ⟨_, List.getElem?_eq_getElem hlt⟩
  have hri := hx.at hr
  have hOk := hx.ok r (List.mem_of_getElem? hr)
  refine vc_skip (n_then (vs (vc_block (vs (vs (wr ?_))))))
  refine wN (v := .ptr H.length 0 0) rfl rfl rfl (v30 rfl ?_)
  iterate 2 refine wN rfl rfl rfl (v30 rfl ?_)
  first | refine wN (v := .iptr _ [_, _, _, _, _, _, _, _, _, _]) rfl rfl rfl (v30 rfl ?_) | (refine x_index rfl rfl ‹_› rfl el43 (by omega) ‹_› rfl (fun bo => ?_); refine v30 rfl ?_)
  refine wN (v := .agg r.row) rfl (rfl) rfl (v30 rfl ?_)
  have hfo := sFollows G Hx w s own hI.rep hI.ok (by have := hI.us; omega) r hOk
  rw [hI.lw] at hfo
  refine w_callS rfl rfl rfl (by kernel_rfl) rfl hfo ?_
  rintro _ Hz ⟨rfl, hHz⟩
  rw [hHz]
  refine v30 rfl ?_
  refine wN rfl rfl rfl (v30 rfl ?_)
  refine we rfl ?_
  refine vc_cond rfl (fun hc22 => ?_) (fun hc22 => ?_)
  ·
   refine vs (wr ?_)
   refine wN rfl rfl rfl (v30 rfl ?_)
   refine we rfl (vc_ret (r_then (r_block (r_then (r_then (r_block (r_then (r_fn rfl ?_))))))))
   have hf : s.follows r = false := by simpa using hc22
   exact ⟨own, hI.fr, .inl ⟨of_none (i + 1) (by rw [of_snoc hI.eq hr, if_neg (by rw [hf]; decide)]), rfl⟩⟩
  have hf : s.follows r = true := by simpa using hc22
  refine vc_skip (n_then (wr ?_))
  refine wN (v := .ptr H.length 0 0) rfl rfl rfl (v30 rfl ?_)
  iterate 2 refine wN rfl rfl rfl (v30 rfl ?_)
  first | refine wN (v := .iptr _ [_, _, _, _, _, _, _, _, _, _]) rfl rfl rfl (v30 rfl ?_) | (refine x_index rfl rfl ‹_› rfl el43 (by omega) ‹_› rfl (fun bo => ?_); refine v30 rfl ?_)
  refine wN (v := .agg r.row) rfl (rfl) rfl (v30 rfl ?_)
  have hadd := sAddR G Hx w s own hI.rep hI.ok (by have := hI.us; omega) r hOk hf (by have := hI.len; omega)
  rw [hI.lw] at hadd
  refine w_callS rfl rfl rfl (by kernel_rfl) rfl hadd ?_
  rintro _ H2 ⟨w2, own2, hlw2, hR2, hF2, hn2⟩
  refine v30 rfl ?_
  refine w_endB rfl (n_then (wr ?_))
  iterate 3 refine wN rfl rfl rfl (v30 rfl ?_)
  refine we rfl ?_
  refine hY0 ⟨(i + 1, H2, w2, own2, s.add r), hlt, hlw2.trans hI.lw, hR2, hI.ok.add hf (by have := hI.len; omega), by have := hI.us; show w2.us.length ≤ i + 1; omega, by rw [of_snoc hI.eq hr, if_pos hf], hI.fr.trans hF2⟩ (by simp only; omega) _ _ ?_ rfl
  repeat' first | exact trivial | refine ⟨.inr rfl, ?_⟩ | refine ⟨.inl rfl, ?_⟩ | refine ⟨.inl ?_, ?_⟩ | fail
  all_goals first | exact (int_succ (by omega)).symm
 have hge : l.length ≤ i := by have := of_decide_eq_false hc13; omega
 refine vc_exit (x_then (x_then (x_same (n_then (vs (wr ?_))))))
 iterate 2 refine wN (v := .ptr H.length 0 0) rfl rfl rfl (v30 rfl ?_)
 refine we rfl (vc_ret (r_fn rfl ?_))
 have heq := hI.eq
 rw [List.take_of_length_le hge] at heq
 exact ⟨own, hI.fr, .inr ⟨w, s, heq, hI.ok, by rw [hI.lw], hI.rep⟩⟩
set_option maxHeartbeats 8000000 in
theorem sSoundR (G : Glob) (x : AV) (l : List Rc) (hx : Recs x l) (hl : l.length ≤ 1000000) : Vi.Fn Tryz.prog G 30 [x] (.bool (soundR l)) := by
 refine fn_body (fun o => match o.op with | .call ⟨.value (.func f), _, _⟩ => if f = 94 then .iso else .shr | .call ⟨.builtin .append, _, _⟩ => .shr | _ => .iso) Tryz.func30 rfl ?_
 refine vc_norm (env' := [_, _, _, _, _, _]) (H' := []) rfl rfl ?_
 refine vs (wr ?_)
 refine wN rfl rfl rfl (v6 rfl ?_)
 refine we rfl (vs (wr ?_))
 refine wN rfl rfl rfl (v6 rfl ?_)
 refine w_callS rfl rfl rfl (by kernel_rfl) rfl (sWalk G [] x l hx hl) ?_
 rintro v H1 ⟨own, hF, hv⟩
 refine v6 rfl ?_
 rcases hv with ⟨he, rfl⟩ | ⟨w, s, he, _, rfl, _⟩
 ·
  iterate 2 refine wN rfl rfl rfl (v6 rfl ?_)
  refine we rfl (vc_ret (r_fn rfl ?_))
  show some (AV.bool false) = some (AV.bool (soundR l))
  rw [soundR, he]
  rfl
 iterate 2 refine wN rfl rfl rfl (v6 rfl ?_)
 refine we rfl (vc_ret (r_fn rfl ?_))
 show some (AV.bool true) = some (AV.bool (soundR l))
 rw [soundR, he]
 rfl
end Go.Vi
namespace Go.Vi
open Go Go.Vi Go.Proofs
attribute [local irreducible] vops vopsD vc
namespace Lay
theorem el40 : elemAt Tryz.prog 40 = some (none, 95, 2) := by kernel_rfl
theorem el35 : elemAt Tryz.prog 35 = some (none, 3, 1) := by kernel_rfl
def fidx (p : List AV → Bool) (rows : List (List AV)) : Int := match rows.findIdx? p with
 | some i => i
 | none => -1
theorem fidx_at {p : List AV → Bool} {rows : List (List AV)} {i : Nat} {r : List AV} (hn : ∀ j r, j < i → rows[j]? = some r → p r = false) (hr : rows[i]? = some r) (hp : p r = true) : fidx p rows = i := by
 have : rows.findIdx? p = some i := by
  rw [List.findIdx?_eq_some_iff_getElem]
  obtain ⟨h, e⟩ := List.getElem?_eq_some_iff.1 hr
  refine ⟨h, by rw [e]; exact hp, fun j hj => ?_⟩
  have := hn j _ hj (List.getElem?_eq_getElem (by omega))
  simp [this]
 simp [fidx, this]
theorem fidx_no {p : List AV → Bool} {rows : List (List AV)} {i : Nat} (hn : ∀ j r, j < i → rows[j]? = some r → p r = false) (hi : rows.length ≤ i) : fidx p rows = -1 := by
 have : rows.findIdx? p = none := by
  rw [List.findIdx?_eq_none_iff]
  intro x hx
  obtain ⟨j, hj⟩ := List.mem_iff_getElem?.1 hx
  have := (List.getElem?_eq_some_iff.1 hj).1
  exact hn j x (by omega) hj
 simp [fidx, this]
theorem fidx_ge {p : List AV → Bool} {rows : List (List AV)} : decide (fidx p rows ≥ 0) = rows.any p := by
 unfold fidx
 cases h : rows.findIdx? p with
 | none =>
   rw [List.findIdx?_eq_none_iff] at h
   have : rows.any p = false := by
    rw [List.any_eq_false]; intro x hx; simp [h x hx]
   simp [this]
 | some i =>
   rw [List.findIdx?_eq_some_iff_getElem] at h
   obtain ⟨h1, h2, h3⟩ := h
   have : rows.any p = true := by
    rw [List.any_eq_true]; exact ⟨_, List.getElem_mem h1, h2⟩
   simp [this]
theorem upto_succ {p : List AV → Bool} {rows : List (List AV)} {i : Nat} {r : List AV} (hn : ∀ j r, j < i → rows[j]? = some r → p r = false) (hr : rows[i]? = some r) (hp : p r = false) : ∀ j r, j < i + 1 → rows[j]? = some r → p r = false := by
 intro j r' hj hr'
 by_cases h : j = i
 · subst h; rw [hr] at hr'; cases hr'; exact hp
 exact hn j r' (by omega) hr'
def badS (last : Int) (r : List AV) : Bool := match r with
 | [b, .int _ st] => (((lrows b).length : Int) != 128) || decide (st < 0) || decide (st > last)
 | _ => true
def validB (last : Int) (rows : List (List AV)) : Bool := decide (0 ≤ last) && decide (last ≤ 1000000) && decide ((rows.length : Int) = 120) && !rows.any (badS last)
def badN (last : Int) (r : List AV) : Bool := match r with
 | [.int _ n] => decide (n < 0) || decide (n > last)
 | _ => true
set_option maxHeartbeats 16000000 in
theorem t26 (G : Glob) (b pages : AV) (st last : Int) (bo : Bool) (hL : IsL b) : Vi.Fn Tryz.prog G 62 [.agg [b, .int .i64 st], .iptr bo [.int .i64 last, pages]] (.bool ((((lrows b).length : Int) != 128) || decide (st < 0) || decide (st > last))) := by
 refine fn_body (fun _ => .iso) Tryz.func62 rfl ?_
 refine vc_norm (env' := [_, _, _, _, _, _, _, _, _, _, _, _, _, _, _, _, _, _, _, _]) (H' := []) rfl rfl ?_
 refine vs (wr ?_)
 refine w_opH (v := .ptr 0 0 0) (env' := _) (H2 := [.arr 95 2 [[_, _]]]) rfl rfl rfl rfl (fun _ h => h) (v20 rfl ?_)
 refine wN rfl rfl rfl (v20 rfl ?_)
 refine we rfl (vs (wr ?_))
 refine wN (v := .ptr 0 0 0) rfl rfl rfl (v20 rfl ?_)
 refine wN rfl rfl rfl (v20 rfl ?_)
 first | refine wN rfl rfl rfl (v20 rfl ?_) | refine x_len rfl rfl ‹_› Tryz.underlying68 rfl (v20 rfl ?_)
 iterate 2 refine wN rfl rfl rfl (v20 rfl ?_)
 refine w_split 8 rfl (fun hg8 => ?_) (fun hg8 => ?_)
 ·
  refine v20 rfl ?_
  iterate 3 refine wS (wanted_f 8 (by kernel_rfl) rfl) (v20 rfl ?_)
  iterate 2 refine wN rfl rfl rfl (v20 rfl ?_)
  iterate 5 refine wS (wanted_f 13 (by kernel_rfl) rfl) (v20 rfl ?_)
  iterate 2 refine wN rfl rfl rfl (v20 rfl ?_)
  refine we rfl (vc_ret (r_fn rfl ?_))
  first | (simp_all [retv, ret1, ret0, retD, AV.isVal]; done) | (simp_all [retv, ret1, ret0, retD, AV.isVal]; omega)
 refine v20 rfl ?_
 refine wN (v := .ptr 0 0 1) (wanted_t 8 (by kernel_rfl) rfl) rfl rfl (v20 rfl ?_)
 iterate 2 refine wN (wanted_t 8 (by kernel_rfl) rfl) rfl rfl (v20 rfl ?_)
 iterate 2 refine wN rfl rfl rfl (v20 rfl ?_)
 refine w_split 13 rfl (fun hg13 => ?_) (fun hg13 => ?_)
 ·
  refine v20 rfl ?_
  iterate 5 refine wS (wanted_f 13 (by kernel_rfl) rfl) (v20 rfl ?_)
  iterate 2 refine wN rfl rfl rfl (v20 rfl ?_)
  refine we rfl (vc_ret (r_fn rfl ?_))
  first | (simp_all [retv, ret1, ret0, retD, AV.isVal]; done) | (simp_all [retv, ret1, ret0, retD, AV.isVal]; omega)
 refine v20 rfl ?_
 refine wN (v := .ptr 0 0 1) (wanted_t 13 (by kernel_rfl) rfl) rfl rfl (v20 rfl ?_)
 refine wN (wanted_t 13 (by kernel_rfl) rfl) rfl rfl (v20 rfl ?_)
 refine wN (v := .iptr _ [_, _]) (wanted_t 13 (by kernel_rfl) rfl) rfl rfl (v20 rfl ?_)
 iterate 2 refine wN (wanted_t 13 (by kernel_rfl) rfl) rfl rfl (v20 rfl ?_)
 iterate 2 refine wN rfl rfl rfl (v20 rfl ?_)
 refine we rfl (vc_ret (r_fn rfl ?_))
 first | (simp_all [retv, ret1, ret0, retD, AV.isVal]; done) | (simp_all [retv, ret1, ret0, retD, AV.isVal]; omega)
set_option maxHeartbeats 16000000 in
theorem t14 (G : Glob) (n last : Int) (bo : Bool) : Vi.Fn Tryz.prog G 68 [.int .i64 n, .iptr bo [.int .i64 last]] (.bool (decide (n < 0) || decide (n > last))) := by
 refine fn_body (fun _ => .iso) Tryz.func68 rfl ?_
 refine vc_norm (env' := [_, _, _, _, _, _, _, _, _, _, _]) (H' := []) rfl rfl ?_
 refine vs (wr ?_)
 refine wN rfl rfl rfl (v11 rfl ?_)
 refine we rfl (vs (wr ?_))
 iterate 3 refine wN rfl rfl rfl (v11 rfl ?_)
 refine w_split 6 rfl (fun hg6 => ?_) (fun hg6 => ?_)
 ·
  refine v11 rfl ?_
  iterate 3 refine wS (wanted_f 6 (by kernel_rfl) rfl) (v11 rfl ?_)
  iterate 2 refine wN rfl rfl rfl (v11 rfl ?_)
  refine we rfl (vc_ret (r_fn rfl ?_))
  first | (simp_all [retv, ret1, ret0, retD, AV.isVal]; done) | (simp_all [retv, ret1, ret0, retD, AV.isVal]; omega)
 refine v11 rfl ?_
 iterate 3 refine wN (wanted_t 6 (by kernel_rfl) rfl) rfl rfl (v11 rfl ?_)
 iterate 2 refine wN rfl rfl rfl (v11 rfl ?_)
 refine we rfl (vc_ret (r_fn rfl ?_))
 first | (simp_all [retv, ret1, ret0, retD, AV.isVal]; done) | (simp_all [retv, ret1, ret0, retD, AV.isVal]; omega)
set_option maxHeartbeats 16000000 in
theorem t34 (G : Glob) (x : AV) (g : Nat) (caps : List AV) (p : List AV → Bool) (hL : IsL x) (hlen : (lrows x).length < 9223372036854775808) (hcl : mapL (lend0 []) caps = some caps) (he : enterOk Tryz.prog g = true) (hp : ∀ r ∈ lrows x, ∃ b s, r = [b, s] ∧ lend [] (.agg [b, s]) = some (.agg [b, s]) ∧ Vi.Fn Tryz.prog G g ((.agg [b, s]) :: caps) (.bool (p r))) : Vi.Fn Tryz.prog G 95 [x, .clo g caps] (.int .i64 (fidx p (lrows x))) := by
 refine fn_body (fun _ => .iso) Tryz.func95 rfl ?_
 refine vc_norm (env' := [_, _, _, _, _, _, _, _, _, _, _, _, _, _, _, _, _, _, _]) (H' := []) rfl rfl ?_
 refine vs (wr ?_)
 refine wN rfl rfl rfl (v19 rfl ?_)
 refine we rfl (vs (vs (wr ?_)))
 refine wN rfl rfl rfl (v19 rfl ?_)
 first | refine wN rfl rfl rfl (v19 rfl ?_) | refine x_len rfl rfl ‹_› Tryz.underlying40 rfl (v19 rfl ?_)
 refine wN rfl rfl rfl (v19 rfl ?_)
 refine we rfl (vc_block ?_)
 refine vc_loopU (α := { i : Nat // (∀ j r, j < i → (lrows x)[j]? = some r → p r = false) ∧ i ≤ (lrows x).length }) (fun i => (rnone 4 ++ ([some .undef, some .undef, none, none, some (.int .i64 (i.1 : Nat))] ++ (rundef 10)))) (fun i => (lrows x).length - i.1) ⟨0, fun j r h => by omega, by omega⟩ (by repeat' first | exact trivial | refine ⟨.inr rfl, ?_⟩ | refine ⟨.inl rfl, ?_⟩ | fail) (fun _ => ⟨Nat.zero_le _, (by repeat' first | exact trivial | exact (cellsB_lent hcl) | exact IsL.belowV ‹_› | refine ⟨?_, ?_⟩ | exact IsL.below ‹_› | (simp [valB, leafB, cellsB, IsL.below, *]; done) | (simp [valB, leafB, cellsB, IsL.below, *]; omega) | fail), (by repeat' first | exact trivial | exact IsL.below (by assumption) | refine ⟨?_, ?_⟩ | (simp [leafB]; done))⟩) ?_
 rintro ⟨i, hn, hi⟩ Y0 hY0
 refine vc_norm (env' := [_, _, _, _, _, _, _, _, _, _, _, _, _, _, _, _, _, _, _]) (H' := []) rfl rfl ?_
 refine vs (wr ?_)
 refine wN rfl rfl rfl (v19 rfl ?_)
 refine we rfl (vs ?_)
 refine vc_cond rfl (fun hc9 => ?_) (fun hc9 => ?_)
 ·
  have hlt : i < (lrows x).length := by simpa using hc9
  have hri : (lrows x)[i]? = some (lrows x)[i] := List.getElem?_eq_getElem hlt
  obtain ⟨b, s, hx, hl, hF⟩ := hp _ (List.getElem_mem hlt)
  rw [hx] at hri hF
  refine vc_skip (n_then (vs (vc_block (vs (wr ?_)))))
  iterate 2 refine wN rfl rfl rfl (v19 rfl ?_)
  refine we rfl (vs (wr ?_))
  iterate 3 refine wN rfl rfl rfl (v19 rfl ?_)
  first | refine wN (v := .iptr _ [_, _]) rfl rfl rfl (v19 rfl ?_) | (refine x_index rfl rfl ‹_› rfl el40 (by omega) ‹_› rfl (fun bo => ?_); refine v19 rfl ?_)
  refine wN (v := .agg [_, _]) rfl rfl rfl (v19 rfl ?_)
  refine w_callI (env' := _) rfl rfl rfl he rfl (mapL_app hl (lends_of0 hcl)) (hF) rfl (v19 rfl ?_)
  refine we rfl ?_
  refine vc_cond rfl (fun hc16 => ?_) (fun hc16 => ?_)
  ·
   refine vs (wr ?_)
   iterate 2 refine wN rfl rfl rfl (v19 rfl ?_)
   refine we rfl (vc_ret (r_block (r_then (r_then (r_block (r_then (r_fn rfl ?_)))))))
   show some (AV.int .i64 (i : Int)) = _
   rw [fidx_at hn hri hc16]
  refine vc_skip (n_block (n_then (wr ?_)))
  iterate 2 refine wN rfl rfl rfl (v19 rfl ?_)
  refine we rfl ?_
  refine hY0 ⟨i + 1, upto_succ hn hri (by simpa using hc16), hlt⟩ (by simp only; omega) _ _ _ ?_ rfl
  repeat' first | exact trivial | refine ⟨.inr rfl, ?_⟩ | refine ⟨.inl rfl, ?_⟩ | refine ⟨.inl ?_, ?_⟩ | fail
  all_goals first | exact (int_succ (by omega)).symm
 have hge : ¬ i < (lrows x).length := by simpa using hc9
 refine vc_exit (x_then (x_then (x_same (n_then (vs (wr ?_))))))
 refine wN rfl rfl rfl (v19 rfl ?_)
 refine we rfl (vc_ret (r_fn rfl ?_))
 show some (AV.int .i64 (-1)) = _
 rw [fidx_no hn (by omega)]
set_option maxHeartbeats 16000000 in
theorem t27 (G : Glob) (x : AV) (g : Nat) (caps : List AV) (p : List AV → Bool) (hL : IsL x) (hlen : (lrows x).length < 9223372036854775808) (hcl : mapL (lend0 []) caps = some caps) (he : enterOk Tryz.prog g = true) (hp : ∀ r ∈ lrows x, ∃ n, r = [n] ∧ lend [] (n) = some (n) ∧ Vi.Fn Tryz.prog G g ((n) :: caps) (.bool (p r))) : Vi.Fn Tryz.prog G 98 [x, .clo g caps] (.int .i64 (fidx p (lrows x))) := by
 refine fn_body (fun _ => .iso) Tryz.func98 rfl ?_
 refine vc_norm (env' := [_, _, _, _, _, _, _, _, _, _, _, _, _, _, _, _, _, _, _]) (H' := []) rfl rfl ?_
 refine vs (wr ?_)
 refine wN rfl rfl rfl (v19 rfl ?_)
 refine we rfl (vs (vs (wr ?_)))
 refine wN rfl rfl rfl (v19 rfl ?_)
 first | refine wN rfl rfl rfl (v19 rfl ?_) | refine x_len rfl rfl ‹_› Tryz.underlying35 rfl (v19 rfl ?_)
 refine wN rfl rfl rfl (v19 rfl ?_)
 refine we rfl (vc_block ?_)
 refine vc_loopU (α := { i : Nat // (∀ j r, j < i → (lrows x)[j]? = some r → p r = false) ∧ i ≤ (lrows x).length }) (fun i => (rnone 4 ++ ([some .undef, some .undef, none, none, some (.int .i64 (i.1 : Nat))] ++ (rundef 10)))) (fun i => (lrows x).length - i.1) ⟨0, fun j r h => by omega, by omega⟩ (by repeat' first | exact trivial | refine ⟨.inr rfl, ?_⟩ | refine ⟨.inl rfl, ?_⟩ | fail) (fun _ => ⟨Nat.zero_le _, (by repeat' first | exact trivial | exact (cellsB_lent hcl) | exact IsL.belowV ‹_› | refine ⟨?_, ?_⟩ | exact IsL.below ‹_› | (simp [valB, leafB, cellsB, IsL.below, *]; done) | (simp [valB, leafB, cellsB, IsL.below, *]; omega) | fail), (by repeat' first | exact trivial | exact IsL.below (by assumption) | refine ⟨?_, ?_⟩ | (simp [leafB]; done))⟩) ?_
 rintro ⟨i, hn, hi⟩ Y0 hY0
 refine vc_norm (env' := [_, _, _, _, _, _, _, _, _, _, _, _, _, _, _, _, _, _, _]) (H' := []) rfl rfl ?_
 refine vs (wr ?_)
 refine wN rfl rfl rfl (v19 rfl ?_)
 refine we rfl (vs ?_)
 refine vc_cond rfl (fun hc9 => ?_) (fun hc9 => ?_)
 ·
  have hlt : i < (lrows x).length := by simpa using hc9
  have hri : (lrows x)[i]? = some (lrows x)[i] := List.getElem?_eq_getElem hlt
  obtain ⟨n, hx, hl, hF⟩ := hp _ (List.getElem_mem hlt)
  rw [hx] at hri hF
  refine vc_skip (n_then (vs (vc_block (vs (wr ?_)))))
  iterate 2 refine wN rfl rfl rfl (v19 rfl ?_)
  refine we rfl (vs (wr ?_))
  iterate 3 refine wN rfl rfl rfl (v19 rfl ?_)
  first | refine wN (v := .iptr _ [_]) rfl rfl rfl (v19 rfl ?_) | (refine x_index rfl rfl ‹_› rfl el35 (by omega) ‹_› rfl (fun bo => ?_); refine v19 rfl ?_)
  refine wN rfl rfl rfl (v19 rfl ?_)
  refine w_callI (env' := _) rfl rfl rfl he rfl (mapL_app hl (lends_of0 hcl)) (hF) rfl (v19 rfl ?_)
  refine we rfl ?_
  refine vc_cond rfl (fun hc16 => ?_) (fun hc16 => ?_)
  ·
   refine vs (wr ?_)
   iterate 2 refine wN rfl rfl rfl (v19 rfl ?_)
   refine we rfl (vc_ret (r_block (r_then (r_then (r_block (r_then (r_fn rfl ?_)))))))
   show some (AV.int .i64 (i : Int)) = _
   rw [fidx_at hn hri hc16]
  refine vc_skip (n_block (n_then (wr ?_)))
  iterate 2 refine wN rfl rfl rfl (v19 rfl ?_)
  refine we rfl ?_
  refine hY0 ⟨i + 1, upto_succ hn hri (by simpa using hc16), hlt⟩ (by simp only; omega) _ _ _ ?_ rfl
  repeat' first | exact trivial | refine ⟨.inr rfl, ?_⟩ | refine ⟨.inl rfl, ?_⟩ | refine ⟨.inl ?_, ?_⟩ | fail
  all_goals first | exact (int_succ (by omega)).symm
 have hge : ¬ i < (lrows x).length := by simpa using hc9
 refine vc_exit (x_then (x_then (x_same (n_then (vs (wr ?_))))))
 refine wN rfl rfl rfl (v19 rfl ?_)
 refine we rfl (vc_ret (r_fn rfl ?_))
 show some (AV.int .i64 (-1)) = _
 rw [fidx_no hn (by omega)]
set_option maxHeartbeats 16000000 in
theorem t25 (G : Glob) (x : AV) (g : Nat) (caps : List AV) (p : List AV → Bool) (hL : IsL x) (hlen : (lrows x).length < 9223372036854775808) (hcl : mapL (lend0 []) caps = some caps) (he : enterOk Tryz.prog g = true) (hp : ∀ r ∈ lrows x, ∃ b s, r = [b, s] ∧ lend [] (.agg [b, s]) = some (.agg [b, s]) ∧ Vi.Fn Tryz.prog G g ((.agg [b, s]) :: caps) (.bool (p r))) : Vi.Fn Tryz.prog G 61 [x, .clo g caps] (.bool ((lrows x).any p)) := by
 have hclo : lend [] (.clo g caps) = some (.clo g caps) := lend_clo hcl
 refine fn_body (fun _ => .iso) Tryz.func61 rfl ?_
 refine vc_norm (env' := [_, _, _, _, _, _, _, _, _]) (H' := []) rfl rfl ?_
 refine vs (wr ?_)
 refine wN rfl rfl rfl (v9 rfl ?_)
 refine we rfl (vs (wr ?_))
 iterate 2 refine wN rfl rfl rfl (v9 rfl ?_)
 refine w_callI (env' := _) rfl rfl rfl (by kernel_rfl) rfl (mapL_cons hL.lend (mapL_cons hclo rfl)) (t34 G x g caps p hL hlen hcl he hp) rfl (v9 rfl ?_)
 iterate 2 refine wN rfl rfl rfl (v9 rfl ?_)
 refine we rfl (vc_ret (r_fn rfl ?_))
 show some (AV.bool (decide (fidx p (lrows x) ≥ 0))) = _
 rw [fidx_ge]
set_option maxHeartbeats 16000000 in
theorem t13 (G : Glob) (x : AV) (g : Nat) (caps : List AV) (p : List AV → Bool) (hL : IsL x) (hlen : (lrows x).length < 9223372036854775808) (hcl : mapL (lend0 []) caps = some caps) (he : enterOk Tryz.prog g = true) (hp : ∀ r ∈ lrows x, ∃ n, r = [n] ∧ lend [] (n) = some (n) ∧ Vi.Fn Tryz.prog G g ((n) :: caps) (.bool (p r))) : Vi.Fn Tryz.prog G 67 [x, .clo g caps] (.bool ((lrows x).any p)) := by
 have hclo : lend [] (.clo g caps) = some (.clo g caps) := lend_clo hcl
 refine fn_body (fun _ => .iso) Tryz.func67 rfl ?_
 refine vc_norm (env' := [_, _, _, _, _, _, _, _, _]) (H' := []) rfl rfl ?_
 refine vs (wr ?_)
 refine wN rfl rfl rfl (v9 rfl ?_)
 refine we rfl (vs (wr ?_))
 iterate 2 refine wN rfl rfl rfl (v9 rfl ?_)
 refine w_callI (env' := _) rfl rfl rfl (by kernel_rfl) rfl (mapL_cons hL.lend (mapL_cons hclo rfl)) (t27 G x g caps p hL hlen hcl he hp) rfl (v9 rfl ?_)
 iterate 2 refine wN rfl rfl rfl (v9 rfl ?_)
 refine we rfl (vc_ret (r_fn rfl ?_))
 show some (AV.bool (decide (fidx p (lrows x) ≥ 0))) = _
 rw [fidx_ge]
set_option maxHeartbeats 16000000 in
theorem t11 (G : Glob) (last : Int) (pages : AV) (hL : IsL pages) (hv : pages.isVal = true) (hlen : (lrows pages).length < 9223372036854775808) (hp : ∀ r ∈ lrows pages, ∃ b st, r = [b, .int .i64 st] ∧ IsL b) : Vi.Fn Tryz.prog G 25 [.agg [.int .i64 last, pages]] (.bool (validB last (lrows pages))) := by
 have hcont := t25 G pages 62 [.iptr true [.int .i64 last, pages]] (badS last) hL hlen rfl (by kernel_rfl) (fun r hr => by
  obtain ⟨b, st, rfl, hLb⟩ := hp r hr
  exact ⟨b, .int .i64 st, rfl, lend_agg (mapL_cons hLb.lend0 rfl), t26 G b pages st last true hLb⟩)
 refine fn_body (fun _ => .iso) Tryz.func25 rfl ?_
 refine vc_norm (env' := (_ :: _ :: _ :: _ :: _ :: _ :: _ :: _ :: _ :: _ :: _ :: _ :: _ :: _ :: _ :: _ :: _ :: _ :: _ :: _ :: _ :: _ :: _ :: _ :: [])) (H' := []) rfl rfl ?_
 refine vs (wr ?_)
 refine w_opH (v := .ptr 0 0 0) (env' := _) (H2 := [.arr 42 2 [[_, _]]]) rfl rfl rfl rfl (fun _ h => h) (v24 rfl ?_)
 refine wN rfl rfl rfl (v24 rfl ?_)
 refine we rfl (vs (wr ?_))
 refine wN (v := .ptr 0 0 0) rfl rfl rfl (v24 rfl ?_)
 iterate 3 refine wN rfl rfl rfl (v24 rfl ?_)
 refine w_split 6 rfl (fun hg6 => ?_) (fun hg6 => ?_)
 ·
  refine v24 rfl ?_
  refine wN (v := .ptr 0 0 0) (wanted_t 6 (by kernel_rfl) rfl) rfl rfl (v24 rfl ?_)
  iterate 2 refine wN (wanted_t 6 (by kernel_rfl) rfl) rfl rfl (v24 rfl ?_)
  iterate 2 refine wN rfl rfl rfl (v24 rfl ?_)
  refine w_split 11 rfl (fun hg11 => ?_) (fun hg11 => ?_)
  ·
   refine v24 rfl ?_
   refine wN (v := .ptr 0 0 1) (wanted_t 11 (by kernel_rfl) rfl) rfl rfl (v24 rfl ?_)
   refine wN (wanted_t 11 (by kernel_rfl) rfl) rfl rfl (v24 rfl ?_)
   first | refine wN (wanted_t 11 (by kernel_rfl) rfl) rfl rfl (v24 rfl ?_) | refine x_len (wanted_t 11 (by kernel_rfl) rfl) rfl ‹_› Tryz.underlying40 rfl (v24 rfl ?_)
   refine wN (wanted_t 11 (by kernel_rfl) rfl) rfl rfl (v24 rfl ?_)
   iterate 2 refine wN rfl rfl rfl (v24 rfl ?_)
   refine w_split 17 rfl (fun hg17 => ?_) (fun hg17 => ?_)
   ·
    refine v24 rfl ?_
    refine wN (v := .ptr 0 0 1) (wanted_t 17 (by kernel_rfl) rfl) rfl rfl (v24 rfl ?_)
    iterate 2 refine wN (wanted_t 17 (by kernel_rfl) rfl) rfl rfl (v24 rfl ?_)
    refine w_callI (env' := _) (wanted_t 17 (by kernel_rfl) rfl) rfl rfl (by kernel_rfl) rfl (by repeat' first | exact mapL_nil | exact IsL.lend ‹_› | exact IsL.lend0 ‹_› | refine mapL_cons ?_ ?_ | refine mapL_app ?_ ?_ | refine lend_agg ?_ | refine lend_cloG ?_ | exact lend0_ptr rfl rfl (by first | (simp [AV.isVal, *]; done) | (simp [isVal_int, isVal_bool, isVal_str, isVal_nils, *]; done)) | exact lend_ptr rfl rfl (by first | (simp [AV.isVal, *]; done) | (simp [isVal_int, isVal_bool, isVal_str, isVal_nils, *]; done)) | rfl) (hcont) rfl (v24 rfl ?_)
    refine wN (wanted_t 17 (by kernel_rfl) rfl) rfl rfl (v24 rfl ?_)
    iterate 2 refine wN rfl rfl rfl (v24 rfl ?_)
    refine we rfl (vc_ret (r_fn rfl ?_))
    show some (AV.bool _) = some (AV.bool _)
    congr 2
    simp [validB]
    first | (simp_all; done) | (simp_all; omega) | (simp_all; intros; exfalso; omega)
   refine v24 rfl ?_
   iterate 5 refine wS (wanted_f 17 (by kernel_rfl) rfl) (v24 rfl ?_)
   iterate 2 refine wN rfl rfl rfl (v24 rfl ?_)
   refine we rfl (vc_ret (r_fn rfl ?_))
   show some (AV.bool _) = some (AV.bool _)
   congr 2
   simp [validB]
   first | (simp_all; done) | (simp_all; omega) | (simp_all; intros; exfalso; omega)
  refine v24 rfl ?_
  iterate 4 refine wS (wanted_f 11 (by kernel_rfl) rfl) (v24 rfl ?_)
  iterate 2 refine wN rfl rfl rfl (v24 rfl ?_)
  iterate 5 refine wS (wanted_f 17 (by kernel_rfl) rfl) (v24 rfl ?_)
  iterate 2 refine wN rfl rfl rfl (v24 rfl ?_)
  refine we rfl (vc_ret (r_fn rfl ?_))
  show some (AV.bool _) = some (AV.bool _)
  congr 2
  simp [validB]
  first | (simp_all; done) | (simp_all; omega) | (simp_all; intros; exfalso; omega)
 refine v24 rfl ?_
 iterate 3 refine wS (wanted_f 6 (by kernel_rfl) rfl) (v24 rfl ?_)
 iterate 2 refine wN rfl rfl rfl (v24 rfl ?_)
 iterate 4 refine wS (wanted_f 11 (by kernel_rfl) rfl) (v24 rfl ?_)
 iterate 2 refine wN rfl rfl rfl (v24 rfl ?_)
 iterate 5 refine wS (wanted_f 17 (by kernel_rfl) rfl) (v24 rfl ?_)
 iterate 2 refine wN rfl rfl rfl (v24 rfl ?_)
 refine we rfl (vc_ret (r_fn rfl ?_))
 show some (AV.bool _) = some (AV.bool _)
 congr 2
 simp [validB]
 first | (simp_all; done) | (simp_all; omega) | (simp_all; intros; exfalso; omega)
end Lay
end Go.Vi
namespace Go.Vi
open Go Go.Vi Go.Proofs
attribute [local irreducible] vops vopsD vc
namespace Lay
theorem el52 : elemAt Tryz.prog 52 = some (none, 108, 3) := by kernel_rfl
theorem el68 : elemAt Tryz.prog 68 = some (none, 5, 1) := by kernel_rfl
def longB (r : List AV) : Bool := match r with
 | b :: _ => decide ((lrows b).length > 200)
 | _ => false
def wideB (rows : List (List AV)) : Bool := rows.any longB || decide (rows.length > 130)
def PageOk (r : List AV) : Prop := ∃ b st, r = [b, .int .i64 st] ∧ Byt b
theorem any_no {p : List AV → Bool} {rows : List (List AV)} {i : Nat} (hn : ∀ j r, j < i → rows[j]? = some r → p r = false) (hi : rows.length ≤ i) : rows.any p = false := by
 rw [List.any_eq_false]
 intro x hx
 obtain ⟨j, hj⟩ := List.mem_iff_getElem?.1 hx
 have := (List.getElem?_eq_some_iff.1 hj).1
 simp [hn j x (by omega) hj]
theorem any_yes {p : List AV → Bool} {rows : List (List AV)} {i : Nat} {r : List AV} (hr : rows[i]? = some r) (hp : p r = true) : rows.any p = true := by
 rw [List.any_eq_true]; exact ⟨r, List.mem_of_getElem? hr, hp⟩
set_option maxHeartbeats 16000000 in
theorem t5 (G : Glob) (last : Int) (pages : AV) (hL : IsL pages) (hlen : (lrows pages).length < 9223372036854775808) (hp : ∀ r ∈ lrows pages, PageOk r) : Vi.Fn Tryz.prog G 19 [.agg [.int .i64 last, pages]] (.bool (wideB (lrows pages))) := by
 refine fn_body (fun _ => .iso) Tryz.func19 rfl ?_
 refine vc_norm (env' := [_, _, _, _, _, _, _, _, _, _, _, _, _, _, _, _, _, _, _, _, _, _, _]) (H' := []) rfl rfl ?_
 refine vs (wr ?_)
 refine w_opH (v := .ptr 0 0 0) (env' := _) (H2 := [.arr 42 2 [[_, _]]]) rfl rfl rfl rfl (fun _ h => h) (v23 rfl ?_)
 refine wN rfl rfl rfl (v23 rfl ?_)
 refine we rfl (vs (vs (wr ?_)))
 refine wN rfl rfl rfl (v23 rfl ?_)
 refine we rfl (vc_block ?_)
 refine vc_loopU (α := { i : Nat // (∀ j r, j < i → (lrows pages)[j]? = some r → longB r = false) ∧ i ≤ (lrows pages).length }) (fun i => ([none, none, some .undef, some (.int .i64 (i.1 : Nat))] ++ (rundef 15 ++ (rnone 4)))) (fun i => (lrows pages).length - i.1) ⟨0, fun j r h => by omega, by omega⟩ (by repeat' first | exact trivial | refine ⟨.inr rfl, ?_⟩ | refine ⟨.inl rfl, ?_⟩ | fail) (fun _ => ⟨Nat.zero_le _, (by repeat' first | exact trivial | exact IsL.belowV ‹_› | refine ⟨?_, ?_⟩ | exact IsL.below ‹_› | (simp [valB, leafB, cellsB, IsL.below, *]; done) | (simp [valB, leafB, cellsB, IsL.below, *]; omega) | fail), (by repeat' first | exact trivial | exact IsL.below (by assumption) | refine ⟨?_, ?_⟩ | (simp [leafB]; done))⟩) ?_
 rintro ⟨i, hn, hi⟩ Y0 hY0
 refine vc_norm (env' := [_, _, _, _, _, _, _, _, _, _, _, _, _, _, _, _, _, _, _, _, _, _, _]) (H' := [.arr 42 2 [[_, _]]]) rfl rfl ?_
 refine vs (vs (wr ?_))
 refine wN rfl rfl rfl (v23 rfl ?_)
 refine wN (v := .ptr 0 0 1) rfl rfl rfl (v23 rfl ?_)
 refine wN rfl rfl rfl (v23 rfl ?_)
 first | refine wN rfl rfl rfl (v23 rfl ?_) | refine x_len rfl rfl ‹_› Tryz.underlying40 rfl (v23 rfl ?_)
 refine wN rfl rfl rfl (v23 rfl ?_)
 refine we rfl ?_
 refine vc_cond rfl (fun hc8 => ?_) (fun hc8 => ?_)
 ·
  have hlt : i < (lrows pages).length := by simpa using hc8
  have hri : (lrows pages)[i]? = some (lrows pages)[i] := List.getElem?_eq_getElem hlt
  obtain ⟨b, st, hx, hLb, hb1, hb2⟩ := hp _ (List.getElem_mem hlt)
  rw [hx] at hri
  refine vc_skip (n_then (vs (vc_block (vs (wr ?_)))))
  refine wN (v := .ptr 0 0 1) rfl rfl rfl (v23 rfl ?_)
  iterate 2 refine wN rfl rfl rfl (v23 rfl ?_)
  first | refine wN (v := .iptr _ [_, _]) rfl rfl rfl (v23 rfl ?_) | (refine x_index rfl rfl ‹_› rfl el40 (by omega) ‹_› rfl (fun bo => ?_); refine v23 rfl ?_)
  refine wN (v := .iptr _ [_, _]) rfl rfl rfl (v23 rfl ?_)
  refine wN rfl rfl rfl (v23 rfl ?_)
  first | refine wN rfl rfl rfl (v23 rfl ?_) | refine x_len rfl rfl ‹_› Tryz.underlying68 rfl (v23 rfl ?_)
  refine wN rfl rfl rfl (v23 rfl ?_)
  refine we rfl ?_
  refine vc_cond rfl (fun hc18 => ?_) (fun hc18 => ?_)
  ·
   refine vs (wr ?_)
   refine wN rfl rfl rfl (v23 rfl ?_)
   refine we rfl (vc_ret (r_block (r_then (r_then (r_block (r_then (r_fn rfl ?_)))))))
   show some (AV.bool true) = _
   have : longB [b, .int .i64 st] = true := by simp only [longB]; simp at hc18; simp; omega
   rw [wideB, any_yes hri this]
   rfl
  refine vc_skip (n_block (n_then (wr ?_)))
  iterate 3 refine wN rfl rfl rfl (v23 rfl ?_)
  refine we rfl ?_
  refine hY0 ⟨i + 1, upto_succ hn hri (by simp only [longB]; simp at hc18; simp; omega), hlt⟩ (by simp only; omega) _ _ _ ?_ rfl
  repeat' first | exact trivial | refine ⟨.inr rfl, ?_⟩ | refine ⟨.inl rfl, ?_⟩ | refine ⟨.inl ?_, ?_⟩ | fail
  all_goals first | exact (int_succ (by omega)).symm
 have hge : ¬ i < (lrows pages).length := by simpa using hc8
 refine vc_exit (x_then (x_then (x_same (n_then (vs (wr ?_))))))
 refine wN (v := .ptr 0 0 1) rfl rfl rfl (v23 rfl ?_)
 refine wN rfl rfl rfl (v23 rfl ?_)
 first | refine wN rfl rfl rfl (v23 rfl ?_) | refine x_len rfl rfl ‹_› Tryz.underlying40 rfl (v23 rfl ?_)
 iterate 2 refine wN rfl rfl rfl (v23 rfl ?_)
 refine we rfl (vc_ret (r_fn rfl ?_))
 show some (AV.bool _) = _
 rw [wideB, any_no hn (by omega)]
 congr 2
 simp
 omega
set_option maxHeartbeats 16000000 in
theorem t18 (G : Glob) (b : AV) (hL : IsL b) (hlen : (lrows b).length < 9223372036854775808) (hp : ∀ q ∈ lrows b, ∃ v, q = [.int .u8 v]) : Vi.Fn Tryz.prog G 58 [b, b] (.int .i64 0) := by
 refine fn_body (fun _ => .iso) Tryz.func58 rfl ?_
 refine vc_norm (env' := (_ :: _ :: _ :: _ :: _ :: _ :: _ :: _ :: _ :: _ :: _ :: _ :: _ :: _ :: _ :: _ :: _ :: _ :: _ :: _ :: _ :: _ :: _ :: _ :: _ :: _ :: _ :: _ :: _ :: _ :: _ :: _ :: _ :: _ :: _ :: _ :: _ :: _ :: _ :: _ :: _ :: _ :: _ :: _ :: _ :: _ :: _ :: _ :: [])) (H' := []) rfl rfl ?_
 refine vs (wr ?_)
 refine wN rfl rfl rfl (v48 rfl ?_)
 refine we rfl (vs (vs (wr ?_)))
 refine wN rfl rfl rfl (v48 rfl ?_)
 refine we rfl (vc_block ?_)
 refine vc_loopU (α := { i : Nat // i ≤ (lrows b).length }) (fun i => (rnone 4 ++ ([some .undef, some (.int .i64 (i.1 : Nat))] ++ (rundef 30 ++ (rnone 12))))) (fun i => (lrows b).length - i.1) ⟨0, by omega⟩ (by repeat' first | exact trivial | refine ⟨.inr rfl, ?_⟩ | refine ⟨.inl rfl, ?_⟩ | fail) (fun _ => ⟨Nat.zero_le _, (by repeat' first | exact trivial | exact IsL.belowV ‹_› | refine ⟨?_, ?_⟩ | exact IsL.below ‹_› | (simp [valB, leafB, cellsB, IsL.below, *]; done) | (simp [valB, leafB, cellsB, IsL.below, *]; omega) | fail), (by repeat' first | exact trivial | exact IsL.below (by assumption) | refine ⟨?_, ?_⟩ | (simp [leafB]; done))⟩) ?_
 rintro ⟨i, hi⟩ Y0 hY0
 refine vc_norm (env' := (_ :: _ :: _ :: _ :: _ :: _ :: _ :: _ :: _ :: _ :: _ :: _ :: _ :: _ :: _ :: _ :: _ :: _ :: _ :: _ :: _ :: _ :: _ :: _ :: _ :: _ :: _ :: _ :: _ :: _ :: _ :: _ :: _ :: _ :: _ :: _ :: _ :: _ :: _ :: _ :: _ :: _ :: _ :: _ :: _ :: _ :: _ :: _ :: [])) (H' := []) rfl rfl ?_
 refine vs (vs (wr ?_))
 iterate 2 refine wN rfl rfl rfl (v48 rfl ?_)
 first | refine wN rfl rfl rfl (v48 rfl ?_) | refine x_len rfl rfl ‹_› Tryz.underlying68 rfl (v48 rfl ?_)
 iterate 2 refine wN rfl rfl rfl (v48 rfl ?_)
 refine w_split 10 rfl (fun hg10 => ?_) (fun hg10 => ?_)
 ·
  have hlt : i < (lrows b).length := by simpa using hg10
  have hri : (lrows b)[i]? = some (lrows b)[i] := List.getElem?_eq_getElem hlt
  obtain ⟨v, hx⟩ := hp _ (List.getElem_mem hlt)
  rw [hx] at hri
  refine v48 rfl ?_
  iterate 2 refine wN (wanted_t 10 (by kernel_rfl) rfl) rfl rfl (v48 rfl ?_)
  first | refine wN (wanted_t 10 (by kernel_rfl) rfl) rfl rfl (v48 rfl ?_) | refine x_len (wanted_t 10 (by kernel_rfl) rfl) rfl ‹_› Tryz.underlying68 rfl (v48 rfl ?_)
  refine wN (wanted_t 10 (by kernel_rfl) rfl) rfl rfl (v48 rfl ?_)
  refine wN rfl rfl rfl (v48 rfl ?_)
  refine we rfl ?_
  refine vc_cond rfl (fun hc15 => ?_) (fun hc15 => ?_)
  ·
   refine vc_skip (n_then (vs (vc_block (vs (w_regionD (by kernel_rfl) ?_)))))
   iterate 2 refine dN rfl rfl rfl (d48 rfl ?_)
   first | refine dN rfl rfl rfl (d48 rfl ?_) | (refine y_index rfl rfl ‹_› rfl el68 (by omega) ‹_› rfl (fun bo => ?_); refine d48 rfl ?_)
   iterate 3 refine dN rfl rfl rfl (d48 rfl ?_)
   first | refine dN rfl rfl rfl (d48 rfl ?_) | (refine y_index rfl rfl ‹_› rfl el68 (by omega) ‹_› rfl (fun bo => ?_); refine d48 rfl ?_)
   iterate 2 refine dN rfl rfl rfl (d48 rfl ?_)
   refine d_end rfl ?_
   refine vc_cond rfl (fun hc26 => ?_) (fun hc26 => ?_)
   ·
    simp at hc26
   refine vc_skip (n_block (n_then (wr ?_)))
   iterate 3 refine wN rfl rfl rfl (v48 rfl ?_)
   refine we rfl ?_
   refine hY0 ⟨i + 1, hlt⟩ (by simp only; omega) _ _ _ ?_ rfl
   repeat' first | exact trivial | refine ⟨.inr rfl, ?_⟩ | refine ⟨.inl rfl, ?_⟩ | refine ⟨.inl ?_, ?_⟩ | fail
   all_goals first | exact (int_succ (by omega)).symm
  exact absurd hc15 (by simpa using hlt)
 refine v48 rfl ?_
 iterate 4 refine wS (wanted_f 10 (by kernel_rfl) rfl) (v48 rfl ?_)
 refine wN rfl rfl rfl (v48 rfl ?_)
 refine we rfl ?_
 refine vc_false rfl ?_
 refine vc_exit (x_then (x_then (x_same (n_then (vs (vc_block (vs (wr ?_))))))))
 refine wN rfl rfl rfl (v48 rfl ?_)
 first | refine wN rfl rfl rfl (v48 rfl ?_) | refine x_len rfl rfl ‹_› Tryz.underlying68 rfl (v48 rfl ?_)
 refine wN rfl rfl rfl (v48 rfl ?_)
 first | refine wN rfl rfl rfl (v48 rfl ?_) | refine x_len rfl rfl ‹_› Tryz.underlying68 rfl (v48 rfl ?_)
 iterate 2 refine wN rfl rfl rfl (v48 rfl ?_)
 refine we rfl ?_
 refine vc_cond rfl (fun hc36 => ?_) (fun hc36 => ?_)
 ·
  simp at hc36
 refine vs (wr ?_)
 refine wN rfl rfl rfl (v48 rfl ?_)
 first | refine wN rfl rfl rfl (v48 rfl ?_) | refine x_len rfl rfl ‹_› Tryz.underlying68 rfl (v48 rfl ?_)
 refine wN rfl rfl rfl (v48 rfl ?_)
 first | refine wN rfl rfl rfl (v48 rfl ?_) | refine x_len rfl rfl ‹_› Tryz.underlying68 rfl (v48 rfl ?_)
 iterate 2 refine wN rfl rfl rfl (v48 rfl ?_)
 refine we rfl ?_
 refine vc_cond rfl (fun hc42 => ?_) (fun hc42 => ?_)
 ·
  simp at hc42
 refine vc_skip (n_block (n_then (vs (wr ?_))))
 refine wN rfl rfl rfl (v48 rfl ?_)
 refine we rfl (vc_ret (r_fn rfl ?_))
 rfl
set_option maxHeartbeats 16000000 in
theorem t8 (G : Glob) (last : Int) (pages : AV) (hL : IsL pages) (hlen : (lrows pages).length < 9223372036854775808) (hp : ∀ r ∈ lrows pages, PageOk r) : Vi.Fn Tryz.prog G 22 [.agg [.int .i64 last, pages], .agg [.int .i64 last, pages]] (.bool true) := by
 refine fn_body (fun _ => .iso) Tryz.func22 rfl ?_
 refine vc_norm (env' := (_ :: _ :: _ :: _ :: _ :: _ :: _ :: _ :: _ :: _ :: _ :: _ :: _ :: _ :: _ :: _ :: _ :: _ :: _ :: _ :: _ :: _ :: _ :: _ :: _ :: _ :: _ :: _ :: _ :: _ :: _ :: _ :: _ :: _ :: _ :: _ :: _ :: _ :: _ :: _ :: _ :: _ :: _ :: _ :: _ :: _ :: _ :: _ :: _ :: _ :: _ :: _ :: _ :: _ :: _ :: _ :: [])) (H' := []) rfl rfl ?_
 refine vs (wr ?_)
 refine w_opH (v := .ptr 0 0 0) (env' := _) (H2 := [.arr 42 2 [[_, _]]]) rfl rfl rfl rfl (fun _ h => h) (v56 rfl ?_)
 refine w_opH (v := .ptr 1 0 0) (env' := _) (H2 := [.arr 42 2 [[_, _]], .arr 42 2 [[_, _]]]) rfl rfl rfl rfl (fun _ h => h) (v56 rfl ?_)
 refine wN rfl rfl rfl (v56 rfl ?_)
 refine we rfl (vs (vs (wr ?_)))
 refine wN (v := .ptr 0 0 0) rfl rfl rfl (v56 rfl ?_)
 refine wN rfl rfl rfl (v56 rfl ?_)
 refine wN (v := .ptr 1 0 0) rfl rfl rfl (v56 rfl ?_)
 iterate 3 refine wN rfl rfl rfl (v56 rfl ?_)
 refine w_split 11 rfl (fun hg11 => ?_) (fun hg11 => ?_)
 ·
  simp at hg11
 refine v56 rfl ?_
 refine wN (v := .ptr 0 0 1) (wanted_t 11 (by kernel_rfl) rfl) rfl rfl (v56 rfl ?_)
 refine wN (wanted_t 11 (by kernel_rfl) rfl) rfl rfl (v56 rfl ?_)
 first | refine wN (wanted_t 11 (by kernel_rfl) rfl) rfl rfl (v56 rfl ?_) | refine x_len (wanted_t 11 (by kernel_rfl) rfl) rfl ‹_› Tryz.underlying40 rfl (v56 rfl ?_)
 refine wN (v := .ptr 1 0 1) (wanted_t 11 (by kernel_rfl) rfl) rfl rfl (v56 rfl ?_)
 refine wN (wanted_t 11 (by kernel_rfl) rfl) rfl rfl (v56 rfl ?_)
 first | refine wN (wanted_t 11 (by kernel_rfl) rfl) rfl rfl (v56 rfl ?_) | refine x_len (wanted_t 11 (by kernel_rfl) rfl) rfl ‹_› Tryz.underlying40 rfl (v56 rfl ?_)
 refine wN (wanted_t 11 (by kernel_rfl) rfl) rfl rfl (v56 rfl ?_)
 refine wN rfl rfl rfl (v56 rfl ?_)
 refine we rfl ?_
 refine vc_cond rfl (fun hc19 => ?_) (fun hc19 => ?_)
 ·
  simp at hc19
 refine vc_skip (n_then (vs (vs (wr ?_))))
 refine wN rfl rfl rfl (v56 rfl ?_)
 refine we rfl (vc_block ?_)
 refine vc_loopU (α := { i : Nat // i ≤ (lrows pages).length }) (fun i => (rnone 4 ++ ([some .undef, some (.int .i64 (i.1 : Nat))] ++ (rnone 14 ++ (rundef 36))))) (fun i => (lrows pages).length - i.1) ⟨0, by omega⟩ (by repeat' first | exact trivial | refine ⟨.inr rfl, ?_⟩ | refine ⟨.inl rfl, ?_⟩ | fail) (fun _ => ⟨Nat.zero_le _, (by repeat' first | exact trivial | exact IsL.belowV ‹_› | refine ⟨?_, ?_⟩ | exact IsL.below ‹_› | (simp [valB, leafB, cellsB, IsL.below, *]; done) | (simp [valB, leafB, cellsB, IsL.below, *]; omega) | fail), (by repeat' first | exact trivial | exact IsL.below (by assumption) | refine ⟨?_, ?_⟩ | (simp [leafB]; done))⟩) ?_
 rintro ⟨i, hi⟩ Y0 hY0
 refine vc_norm (env' := (_ :: _ :: _ :: _ :: _ :: _ :: _ :: _ :: _ :: _ :: _ :: _ :: _ :: _ :: _ :: _ :: _ :: _ :: _ :: _ :: _ :: _ :: _ :: _ :: _ :: _ :: _ :: _ :: _ :: _ :: _ :: _ :: _ :: _ :: _ :: _ :: _ :: _ :: _ :: _ :: _ :: _ :: _ :: _ :: _ :: _ :: _ :: _ :: _ :: _ :: _ :: _ :: _ :: _ :: _ :: _ :: [])) (H' := [.arr 42 2 [[_, _]], .arr 42 2 [[_, _]]]) rfl rfl ?_
 refine vs (vs (wr ?_))
 refine wN rfl rfl rfl (v56 rfl ?_)
 refine wN (v := .ptr 0 0 1) rfl rfl rfl (v56 rfl ?_)
 refine wN rfl rfl rfl (v56 rfl ?_)
 first | refine wN rfl rfl rfl (v56 rfl ?_) | refine x_len rfl rfl ‹_› Tryz.underlying40 rfl (v56 rfl ?_)
 refine wN rfl rfl rfl (v56 rfl ?_)
 refine we rfl ?_
 refine vc_cond rfl (fun hc24 => ?_) (fun hc24 => ?_)
 ·
  have hlt : i < (lrows pages).length := by simpa using hc24
  have hri : (lrows pages)[i]? = some (lrows pages)[i] := List.getElem?_eq_getElem hlt
  obtain ⟨b, st, hx, hLb, hb1, hb2⟩ := hp _ (List.getElem_mem hlt)
  rw [hx] at hri
  refine vc_skip (n_then (vs (vc_block (vs (w_regionD (by kernel_rfl) ?_)))))
  refine dN (v := .ptr 0 0 1) rfl rfl rfl (d56 rfl ?_)
  iterate 2 refine dN rfl rfl rfl (d56 rfl ?_)
  first | refine dN (v := .iptr _ [_, _]) rfl rfl rfl (d56 rfl ?_) | (refine y_index rfl rfl ‹_› rfl el40 (by omega) ‹_› rfl (fun bo => ?_); refine d56 rfl ?_)
  refine dN (v := .iptr _ [_]) rfl rfl rfl (d56 rfl ?_)
  refine dN rfl rfl rfl (d56 rfl ?_)
  refine dN (v := .ptr 1 0 1) rfl rfl rfl (d56 rfl ?_)
  iterate 2 refine dN rfl rfl rfl (d56 rfl ?_)
  first | refine dN (v := .iptr _ [_, _]) rfl rfl rfl (d56 rfl ?_) | (refine y_index rfl rfl ‹_› rfl el40 (by omega) ‹_› rfl (fun bo => ?_); refine d56 rfl ?_)
  refine dN (v := .iptr _ [_]) rfl rfl rfl (d56 rfl ?_)
  iterate 3 refine dN rfl rfl rfl (d56 rfl ?_)
  refine d_split 40 rfl (fun hg40 => ?_) (fun hg40 => ?_)
  ·
   simp at hg40
  refine d56 rfl ?_
  refine dN (v := .ptr 0 0 1) (wanted_t 40 (by kernel_rfl) rfl) rfl rfl (d56 rfl ?_)
  iterate 2 refine dN (wanted_t 40 (by kernel_rfl) rfl) rfl rfl (d56 rfl ?_)
  first | refine dN (v := .iptr _ [_, _]) (wanted_t 40 (by kernel_rfl) rfl) rfl rfl (d56 rfl ?_) | (refine y_index (wanted_t 40 (by kernel_rfl) rfl) rfl ‹_› rfl el40 (by omega) ‹_› rfl (fun bo => ?_); refine d56 rfl ?_)
  refine dN (v := .iptr _ [_, _]) (wanted_t 40 (by kernel_rfl) rfl) rfl rfl (d56 rfl ?_)
  refine dN (wanted_t 40 (by kernel_rfl) rfl) rfl rfl (d56 rfl ?_)
  refine dN (v := .ptr 1 0 1) (wanted_t 40 (by kernel_rfl) rfl) rfl rfl (d56 rfl ?_)
  iterate 2 refine dN (wanted_t 40 (by kernel_rfl) rfl) rfl rfl (d56 rfl ?_)
  first | refine dN (v := .iptr _ [_, _]) (wanted_t 40 (by kernel_rfl) rfl) rfl rfl (d56 rfl ?_) | (refine y_index (wanted_t 40 (by kernel_rfl) rfl) rfl ‹_› rfl el40 (by omega) ‹_› rfl (fun bo => ?_); refine d56 rfl ?_)
  refine dN (v := .iptr _ [_, _]) (wanted_t 40 (by kernel_rfl) rfl) rfl rfl (d56 rfl ?_)
  refine dN (wanted_t 40 (by kernel_rfl) rfl) rfl rfl (d56 rfl ?_)
  refine d_callI (env' := _) (wanted_t 40 (by kernel_rfl) rfl) rfl rfl (by kernel_rfl) rfl (by repeat' first | exact mapL_nil | exact IsL.lend ‹_› | exact IsL.lend0 ‹_› | refine mapL_cons ?_ ?_ | refine mapL_app ?_ ?_ | refine lend_agg ?_ | refine lend_cloG ?_ | exact lend0_ptr rfl rfl (by first | (simp [AV.isVal, *]; done) | (simp [isVal_int, isVal_bool, isVal_str, isVal_nils, *]; done)) | exact lend_ptr rfl rfl (by first | (simp [AV.isVal, *]; done) | (simp [isVal_int, isVal_bool, isVal_str, isVal_nils, *]; done)) | rfl) (t18 G b hLb hb1 hb2) rfl (d56 rfl ?_)
  refine dN (wanted_t 40 (by kernel_rfl) rfl) rfl rfl (d56 rfl ?_)
  refine dN rfl rfl rfl (d56 rfl ?_)
  refine d_end rfl ?_
  refine vc_cond rfl (fun hc55 => ?_) (fun hc55 => ?_)
  ·
   simp at hc55
  refine vc_skip (n_block (n_then (wr ?_)))
  iterate 3 refine wN rfl rfl rfl (v56 rfl ?_)
  refine we rfl ?_
  refine hY0 ⟨i + 1, hlt⟩ (by simp only; omega) _ _ _ ?_ rfl
  repeat' first | exact trivial | refine ⟨.inr rfl, ?_⟩ | refine ⟨.inl rfl, ?_⟩ | refine ⟨.inl ?_, ?_⟩ | fail
  all_goals first | exact (int_succ (by omega)).symm
 refine vc_exit (x_then (x_then (x_same (n_then (vs (wr ?_))))))
 refine wN rfl rfl rfl (v56 rfl ?_)
 refine we rfl (vc_ret (r_fn rfl ?_))
 rfl
end Lay
end Go.Vi
namespace Go.Vi
open Go Go.Vi Go.Proofs
attribute [local irreducible] vops vopsD vc
namespace Lay
theorem zc3 : zcOf Tryz.prog 3 = some [.int .i64 0] := by kernel_rfl
theorem by3 : byOf Tryz.prog 3 = some 8 := by kernel_rfl
def pPg (r : List AV) : Int := match r with
 | .int _ p :: _ => p
 | _ => 0
def pAt (r : List AV) : Int := match r with
 | _ :: .int _ a :: _ => a
 | _ => 0
def pBy (r : List AV) : List (List AV) := match r with
 | _ :: _ :: b :: _ => lrows b
 | _ => []
def PieceOk (r : List AV) : Prop := ∃ pg a b, r = [.int .i64 pg, .int .i64 a, b] ∧ Byt b
def okP (r : List AV) : Bool := !(decide (pPg r < 0) || decide (pPg r ≥ 120) || decide (pAt r < 0) || decide (pAt r ≥ 128) || decide (((pBy r).length : Int) < 1) || decide (((pBy r).length : Int) > 128 - pAt r))
def scan : Option (List AV) → List (List AV) → Option (List (List AV))
 | _, [] => some []
 | none, r :: l => if okP r = true then (scan (some r) l).map ([.int .i64 (pPg r)] :: ·) else none
 | some q, r :: l => if okP r = true then (if pPg r > pPg q then (scan (some r) l).map ([.int .i64 (pPg r)] :: ·) else if pPg r < pPg q ∨ pAt r ≤ pAt q + (pBy q).length then none else scan (some r) l) else none
def prevAt (l : List (List AV)) (i : Nat) : Option (List AV) := if i = 0 then none else l[i - 1]?
structure Inv (l : List (List AV)) (i : Nat) (pgs : List (List AV)) : Prop where
 le : i ≤ l.length
 val : allVal pgs = true
 len : pgs.length ≤ i
 ok : ∀ j r, j < i → l[j]? = some r → okP r = true
 eq : scan none l = (scan (prevAt l i) (l.drop i)).map (pgs ++ ·)
theorem inv_zero (l : List (List AV)) : Inv l 0 [] := ⟨by omega, rfl, by simp, fun j r h => by omega, by
 simp only [prevAt, if_true, List.drop_zero, List.nil_append]
 cases scan none l <;> rfl⟩
theorem drop_at {l : List (List AV)} {i : Nat} {r : List AV} (hr : l[i]? = some r) : l.drop i = r :: l.drop (i + 1) := by
 obtain ⟨h1, h2⟩ := List.getElem?_eq_some_iff.1 hr
 rw [List.drop_eq_getElem_cons h1, h2]
theorem ok_succ {l : List (List AV)} {i : Nat} {pgs : List (List AV)} {r : List AV} (hI : Inv l i pgs) (hr : l[i]? = some r) (hk : okP r = true) : ∀ j r, j < i + 1 → l[j]? = some r → okP r = true := by
 intro j r' hj hr'
 by_cases h : j = i
 · subst h; rw [hr] at hr'; cases hr'; exact hk
 exact hI.ok j r' (by omega) hr'
theorem scan_bad {l : List (List AV)} {i : Nat} {pgs : List (List AV)} {r : List AV} (hI : Inv l i pgs) (hr : l[i]? = some r) (hk : okP r = false) : scan none l = none := by
 rw [hI.eq, drop_at hr]
 cases prevAt l i <;> simp [scan, hk]
theorem scan_new {l : List (List AV)} {i : Nat} {pgs : List (List AV)} {r : List AV} (hI : Inv l i pgs) (hr : l[i]? = some r) (hk : okP r = true) (hn : i = 0 ∨ ∃ q, l[i - 1]? = some q ∧ pPg r > pPg q) : Inv l (i + 1) (pgs ++ [[.int .i64 (pPg r)]]) := by
 have hlt := (List.getElem?_eq_some_iff.1 hr).1
 refine ⟨hlt, ?_, by have := hI.len; simp; omega, ok_succ hI hr hk, ?_⟩
 · have := hI.val
   simp [allVal] at this ⊢
   exact ⟨this, rfl⟩
 rw [hI.eq, drop_at hr]
 have hp : prevAt l (i + 1) = some r := by simp [prevAt, hr]
 rw [hp]
 have key : ∀ z : Option (List (List AV)), Option.map (pgs ++ ·) (z.map ([.int .i64 (pPg r)] :: ·)) = z.map (pgs ++ [[.int .i64 (pPg r)]] ++ ·) := by
  intro z; cases z <;> simp
 rcases hn with rfl | ⟨q, hq, hgt⟩
 · simp only [prevAt, if_true, scan, hk]
   exact key _
 by_cases h0 : i = 0
 · subst h0
   simp only [prevAt, if_true, scan, hk]
   exact key _
 simp only [prevAt, if_neg h0, hq, scan, hk, if_true, if_pos hgt]
 exact key _
theorem scan_same {l : List (List AV)} {i : Nat} {pgs : List (List AV)} {r q : List AV} (hI : Inv l i pgs) (hr : l[i]? = some r) (hk : okP r = true) (h0 : 0 < i) (hq : l[i - 1]? = some q) (h1 : ¬ pPg r > pPg q) (h2 : ¬ (pPg r < pPg q ∨ pAt r ≤ pAt q + (pBy q).length)) : Inv l (i + 1) pgs := by
 have hlt := (List.getElem?_eq_some_iff.1 hr).1
 refine ⟨hlt, hI.val, by have := hI.len; omega, ok_succ hI hr hk, ?_⟩
 rw [hI.eq, drop_at hr]
 have hp : prevAt l (i + 1) = some r := by simp [prevAt, hr]
 rw [hp]
 simp only [prevAt, if_neg (show ¬ i = 0 by omega), hq, scan, hk, if_true, if_neg h1, if_neg h2]
theorem scan_bad2 {l : List (List AV)} {i : Nat} {pgs : List (List AV)} {r q : List AV} (hI : Inv l i pgs) (hr : l[i]? = some r) (hk : okP r = true) (h0 : 0 < i) (hq : l[i - 1]? = some q) (h1 : ¬ pPg r > pPg q) (h2 : pPg r < pPg q ∨ pAt r ≤ pAt q + (pBy q).length) : scan none l = none := by
 rw [hI.eq, drop_at hr]
 simp only [prevAt, if_neg (show ¬ i = 0 by omega), hq, scan, hk, if_true, if_neg h1, if_pos h2]
 rfl
theorem scan_end {l : List (List AV)} {i : Nat} {pgs : List (List AV)} (hI : Inv l i pgs) (hi : l.length ≤ i) : scan none l = some pgs := by
 rw [hI.eq, List.drop_of_length_le hi]
 cases prevAt l i <;> simp [scan]
def pieces (l : List (List AV)) : AV := match scan none l with
 | some pgs => .tup [plist pgs, .bool true]
 | none => .tup [.nils, .bool false]
theorem okP3 {pg a : Int} {b : AV} : okP [.int .i64 pg, .int .i64 a, b] = !(decide (pg < 0) || decide (pg ≥ 120) || decide (a < 0) || decide (a ≥ 128) || decide (((lrows b).length : Int) < 1) || decide (((lrows b).length : Int) > 128 - a)) := rfl
theorem okP_f {pg a : Int} {b : AV} (h : pg < 0 ∨ pg ≥ 120 ∨ a < 0 ∨ a ≥ 128 ∨ ((lrows b).length : Int) < 1 ∨ ((lrows b).length : Int) > 128 - a) : okP [.int .i64 pg, .int .i64 a, b] = false := by
 rw [okP3]
 simp only [Bool.not_eq_false', Bool.or_eq_true, decide_eq_true_eq]
 omega
theorem okP_t {pg a : Int} {b : AV} (h : ¬ (pg < 0 ∨ pg ≥ 120 ∨ a < 0 ∨ a ≥ 128 ∨ ((lrows b).length : Int) < 1 ∨ ((lrows b).length : Int) > 128 - a)) : okP [.int .i64 pg, .int .i64 a, b] = true := by
 rw [okP3]
 simp only [Bool.not_eq_true', Bool.or_eq_false_iff, decide_eq_false_iff_not]
 omega
theorem okP_bounds {pg a : Int} {b : AV} (h : okP [.int .i64 pg, .int .i64 a, b] = true) : 0 ≤ pg ∧ pg < 120 ∧ 0 ≤ a ∧ a < 128 ∧ 1 ≤ (lrows b).length ∧ ((lrows b).length : Int) ≤ 128 - a := by
 rw [okP3] at h
 simp only [Bool.not_eq_true', Bool.or_eq_false_iff, decide_eq_false_iff_not] at h
 omega
set_option maxHeartbeats 16000000 in
theorem t12 (G : Glob) (l : AV) (hL : IsL l) (hlen : (lrows l).length ≤ 100000) (hp : ∀ r ∈ lrows l, PieceOk r) : Vi.Fn Tryz.prog G 66 [l] (pieces (lrows l)) := by
 refine fn_body (fun _ => .iso) Tryz.func66 rfl ?_
 refine vc_norm (env' := (_ :: _ :: _ :: _ :: _ :: _ :: _ :: _ :: _ :: _ :: _ :: _ :: _ :: _ :: _ :: _ :: _ :: _ :: _ :: _ :: _ :: _ :: _ :: _ :: _ :: _ :: _ :: _ :: _ :: _ :: _ :: _ :: _ :: _ :: _ :: _ :: _ :: _ :: _ :: _ :: _ :: _ :: _ :: _ :: _ :: _ :: _ :: _ :: _ :: _ :: _ :: _ :: _ :: _ :: _ :: _ :: _ :: _ :: _ :: _ :: _ :: _ :: _ :: _ :: _ :: _ :: _ :: _ :: _ :: _ :: _ :: _ :: _ :: _ :: _ :: _ :: _ :: _ :: _ :: _ :: _ :: _ :: _ :: _ :: _ :: _ :: _ :: _ :: [])) (H' := []) rfl rfl ?_
 refine vs (wr ?_)
 iterate 2 refine wN rfl rfl rfl (v88 rfl ?_)
 refine we rfl (vs (vs (wr ?_)))
 refine wN rfl rfl rfl (v88 rfl ?_)
 first | refine wN rfl rfl rfl (v88 rfl ?_) | refine x_len rfl rfl ‹_› Tryz.underlying52 rfl (v88 rfl ?_)
 refine wN rfl rfl rfl (v88 rfl ?_)
 refine we rfl (vc_block ?_)
 refine vc_loopN (α := { a : Nat × List (List AV) // Inv (lrows l) a.1 a.2 }) (fun i => ([none, none, some (pval 0 i.1.2)] ++ (rundef 4 ++ ([none, none, some (.int .i64 (i.1.1 : Nat))] ++ (rundef 77 ++ ([none])))))) (fun i => [pobj 3 1 i.1.2]) (fun i => (lrows l).length - i.1.1) ⟨(0, []), inv_zero _⟩ [0] (by repeat' first | exact trivial | refine ⟨.inl rfl, ?_⟩ | refine ⟨.inr rfl, ?_⟩ | refine ⟨.inr (IsL.ren1 ‹_›), ?_⟩ | fail) (by decide) (fun _ h => absurd h (by omega)) ⟨.inl rfl, trivial⟩ (fun i => ⟨Nat.zero_le _, (by repeat' first | exact trivial | exact .inr ⟨_, rfl, rfl⟩ | exact IsL.valN ‹_› | exact (pval_N rfl) | refine ⟨?_, ?_⟩ | fail), ⟨pobj_N i.2.val, trivial⟩⟩) ?_
 rintro ⟨⟨i, pgs⟩, hI⟩ Y0 hY0
 refine vc_norm (env' := (_ :: _ :: (pval 0 pgs) :: _ :: _ :: _ :: _ :: _ :: _ :: (.int .i64 (i : Int)) :: _ :: _ :: _ :: _ :: _ :: _ :: _ :: _ :: _ :: _ :: _ :: _ :: _ :: _ :: _ :: _ :: _ :: _ :: _ :: _ :: _ :: _ :: _ :: _ :: _ :: _ :: _ :: _ :: _ :: _ :: _ :: _ :: _ :: _ :: _ :: _ :: _ :: _ :: _ :: _ :: _ :: _ :: _ :: _ :: _ :: _ :: _ :: _ :: _ :: _ :: _ :: _ :: _ :: _ :: _ :: _ :: _ :: _ :: _ :: _ :: _ :: _ :: _ :: _ :: _ :: _ :: _ :: _ :: _ :: _ :: _ :: _ :: _ :: _ :: _ :: _ :: _ :: _ :: [])) (H' := [pobj 3 1 pgs]) rfl rfl ?_
 replace hI : Inv (lrows l) i pgs := hI
 refine vs (wr ?_)
 refine wN rfl rfl rfl (v88 rfl ?_)
 refine we rfl (vs ?_)
 refine vc_cond rfl (fun hc10 => ?_) (fun hc10 => ?_)
 ·
  have hlt : i < (lrows l).length := by simpa using hc10
  have hri : (lrows l)[i]? = some (lrows l)[i] := List.getElem?_eq_getElem hlt
  obtain ⟨pg, a, b, hx, hLb, hb1, hb2⟩ := hp _ (List.getElem_mem hlt)
  rw [hx] at hri
  refine vc_skip (n_then (vs (vc_block (vs (wr ?_)))))
  refine wN rfl rfl rfl (v88 rfl ?_)
  first | refine wN (v := .iptr _ [_, _, _]) rfl rfl rfl (v88 rfl ?_) | (refine x_index rfl rfl ‹_› rfl el52 (by omega) ‹_› rfl (fun bo => ?_); refine v88 rfl ?_)
  refine wN (v := .agg [_, _, _]) rfl rfl rfl (v88 rfl ?_)
  refine w_opH (v := .ptr 1 0 0) (env' := _) (H2 := [pobj 3 1 pgs, .arr 108 3 [[_, _, _]]]) rfl rfl rfl rfl (fun _ h => h) (v88 rfl ?_)
  refine wN rfl rfl rfl (v88 rfl ?_)
  refine w_op0N (H2 := [pobj 3 1 pgs, .arr 108 3 [[_, _, _]]]) rfl rfl rfl (fun _ h => h) ?_
  refine we rfl (vs (vs (wr ?_)))
  refine wN (v := .ptr 1 0 0) rfl rfl rfl (v88 rfl ?_)
  iterate 3 refine wN rfl rfl rfl (v88 rfl ?_)
  refine w_split 17 rfl (fun hg17 => ?_) (fun hg17 => ?_)
  ·
   refine v88 rfl ?_
   iterate 3 refine wS (wanted_f 17 (by kernel_rfl) rfl) (v88 rfl ?_)
   iterate 2 refine wN rfl rfl rfl (v88 rfl ?_)
   iterate 3 refine wS (wanted_f 22 (by kernel_rfl) rfl) (v88 rfl ?_)
   iterate 2 refine wN rfl rfl rfl (v88 rfl ?_)
   iterate 3 refine wS (wanted_f 27 (by kernel_rfl) rfl) (v88 rfl ?_)
   iterate 2 refine wN rfl rfl rfl (v88 rfl ?_)
   iterate 4 refine wS (wanted_f 32 (by kernel_rfl) rfl) (v88 rfl ?_)
   iterate 2 refine wN rfl rfl rfl (v88 rfl ?_)
   iterate 7 refine wS (wanted_f 38 (by kernel_rfl) rfl) (v88 rfl ?_)
   refine wN rfl rfl rfl (v88 rfl ?_)
   refine we rfl ?_
   refine vc_true rfl ?_
   refine vs (wr ?_)
   iterate 2 refine wN rfl rfl rfl (v88 rfl ?_)
   refine we rfl (vc_ret (r_then (r_block (r_then (r_then (r_block (r_then (r_fn rfl ?_))))))))
   have hk : okP [.int .i64 pg, .int .i64 a, b] = false := okP_f (by have := of_decide_eq_true hg17; omega)
   show some (AV.tup [.nils, .bool false]) = some (pieces (lrows l))
   rw [pieces, scan_bad hI hri hk]
  refine v88 rfl ?_
  refine wN (v := .ptr 1 0 0) (wanted_t 17 (by kernel_rfl) rfl) rfl rfl (v88 rfl ?_)
  iterate 2 refine wN (wanted_t 17 (by kernel_rfl) rfl) rfl rfl (v88 rfl ?_)
  iterate 2 refine wN rfl rfl rfl (v88 rfl ?_)
  refine w_split 22 rfl (fun hg22 => ?_) (fun hg22 => ?_)
  ·
   refine v88 rfl ?_
   iterate 3 refine wS (wanted_f 22 (by kernel_rfl) rfl) (v88 rfl ?_)
   iterate 2 refine wN rfl rfl rfl (v88 rfl ?_)
   iterate 3 refine wS (wanted_f 27 (by kernel_rfl) rfl) (v88 rfl ?_)
   iterate 2 refine wN rfl rfl rfl (v88 rfl ?_)
   iterate 4 refine wS (wanted_f 32 (by kernel_rfl) rfl) (v88 rfl ?_)
   iterate 2 refine wN rfl rfl rfl (v88 rfl ?_)
   iterate 7 refine wS (wanted_f 38 (by kernel_rfl) rfl) (v88 rfl ?_)
   refine wN rfl rfl rfl (v88 rfl ?_)
   refine we rfl ?_
   refine vc_true rfl ?_
   refine vs (wr ?_)
   iterate 2 refine wN rfl rfl rfl (v88 rfl ?_)
   refine we rfl (vc_ret (r_then (r_block (r_then (r_then (r_block (r_then (r_fn rfl ?_))))))))
   have hk : okP [.int .i64 pg, .int .i64 a, b] = false := okP_f (by have := of_decide_eq_true hg22; omega)
   show some (AV.tup [.nils, .bool false]) = some (pieces (lrows l))
   rw [pieces, scan_bad hI hri hk]
  refine v88 rfl ?_
  refine wN (v := .ptr 1 0 1) (wanted_t 22 (by kernel_rfl) rfl) rfl rfl (v88 rfl ?_)
  iterate 2 refine wN (wanted_t 22 (by kernel_rfl) rfl) rfl rfl (v88 rfl ?_)
  iterate 2 refine wN rfl rfl rfl (v88 rfl ?_)
  refine w_split 27 rfl (fun hg27 => ?_) (fun hg27 => ?_)
  ·
   refine v88 rfl ?_
   iterate 3 refine wS (wanted_f 27 (by kernel_rfl) rfl) (v88 rfl ?_)
   iterate 2 refine wN rfl rfl rfl (v88 rfl ?_)
   iterate 4 refine wS (wanted_f 32 (by kernel_rfl) rfl) (v88 rfl ?_)
   iterate 2 refine wN rfl rfl rfl (v88 rfl ?_)
   iterate 7 refine wS (wanted_f 38 (by kernel_rfl) rfl) (v88 rfl ?_)
   refine wN rfl rfl rfl (v88 rfl ?_)
   refine we rfl ?_
   refine vc_true rfl ?_
   refine vs (wr ?_)
   iterate 2 refine wN rfl rfl rfl (v88 rfl ?_)
   refine we rfl (vc_ret (r_then (r_block (r_then (r_then (r_block (r_then (r_fn rfl ?_))))))))
   have hk : okP [.int .i64 pg, .int .i64 a, b] = false := okP_f (by have := of_decide_eq_true hg27; omega)
   show some (AV.tup [.nils, .bool false]) = some (pieces (lrows l))
   rw [pieces, scan_bad hI hri hk]
  refine v88 rfl ?_
  refine wN (v := .ptr 1 0 1) (wanted_t 27 (by kernel_rfl) rfl) rfl rfl (v88 rfl ?_)
  iterate 2 refine wN (wanted_t 27 (by kernel_rfl) rfl) rfl rfl (v88 rfl ?_)
  iterate 2 refine wN rfl rfl rfl (v88 rfl ?_)
  refine w_split 32 rfl (fun hg32 => ?_) (fun hg32 => ?_)
  ·
   refine v88 rfl ?_
   iterate 4 refine wS (wanted_f 32 (by kernel_rfl) rfl) (v88 rfl ?_)
   iterate 2 refine wN rfl rfl rfl (v88 rfl ?_)
   iterate 7 refine wS (wanted_f 38 (by kernel_rfl) rfl) (v88 rfl ?_)
   refine wN rfl rfl rfl (v88 rfl ?_)
   refine we rfl ?_
   refine vc_true rfl ?_
   refine vs (wr ?_)
   iterate 2 refine wN rfl rfl rfl (v88 rfl ?_)
   refine we rfl (vc_ret (r_then (r_block (r_then (r_then (r_block (r_then (r_fn rfl ?_))))))))
   have hk : okP [.int .i64 pg, .int .i64 a, b] = false := okP_f (by have := of_decide_eq_true hg32; omega)
   show some (AV.tup [.nils, .bool false]) = some (pieces (lrows l))
   rw [pieces, scan_bad hI hri hk]
  refine v88 rfl ?_
  refine wN (v := .ptr 1 0 2) (wanted_t 32 (by kernel_rfl) rfl) rfl rfl (v88 rfl ?_)
  refine wN (wanted_t 32 (by kernel_rfl) rfl) rfl rfl (v88 rfl ?_)
  first | refine wN (wanted_t 32 (by kernel_rfl) rfl) rfl rfl (v88 rfl ?_) | refine x_len (wanted_t 32 (by kernel_rfl) rfl) rfl ‹_› Tryz.underlying68 rfl (v88 rfl ?_)
  refine wN (wanted_t 32 (by kernel_rfl) rfl) rfl rfl (v88 rfl ?_)
  iterate 2 refine wN rfl rfl rfl (v88 rfl ?_)
  refine w_split 38 rfl (fun hg38 => ?_) (fun hg38 => ?_)
  ·
   refine v88 rfl ?_
   iterate 7 refine wS (wanted_f 38 (by kernel_rfl) rfl) (v88 rfl ?_)
   refine wN rfl rfl rfl (v88 rfl ?_)
   refine we rfl ?_
   refine vc_true rfl ?_
   refine vs (wr ?_)
   iterate 2 refine wN rfl rfl rfl (v88 rfl ?_)
   refine we rfl (vc_ret (r_then (r_block (r_then (r_then (r_block (r_then (r_fn rfl ?_))))))))
   have hk : okP [.int .i64 pg, .int .i64 a, b] = false := okP_f (by have := of_decide_eq_true hg38; omega)
   show some (AV.tup [.nils, .bool false]) = some (pieces (lrows l))
   rw [pieces, scan_bad hI hri hk]
  refine v88 rfl ?_
  refine wN (v := .ptr 1 0 2) (wanted_t 38 (by kernel_rfl) rfl) rfl rfl (v88 rfl ?_)
  refine wN (wanted_t 38 (by kernel_rfl) rfl) rfl rfl (v88 rfl ?_)
  first | refine wN (wanted_t 38 (by kernel_rfl) rfl) rfl rfl (v88 rfl ?_) | refine x_len (wanted_t 38 (by kernel_rfl) rfl) rfl ‹_› Tryz.underlying68 rfl (v88 rfl ?_)
  refine wN (v := .ptr 1 0 1) (wanted_t 38 (by kernel_rfl) rfl) rfl rfl (v88 rfl ?_)
  refine wN (wanted_t 38 (by kernel_rfl) rfl) rfl rfl (v88 rfl ?_)
  refine wN (v := .int .i64 (128 - a)) (wanted_t 38 (by kernel_rfl) rfl) (int_eq (i64_small (by have := of_decide_eq_false hg27; have := of_decide_eq_false hg32; omega) (by have := of_decide_eq_false hg27; omega))) rfl (v88 rfl ?_)
  refine wN (wanted_t 38 (by kernel_rfl) rfl) rfl rfl (v88 rfl ?_)
  refine wN rfl rfl rfl (v88 rfl ?_)
  refine we rfl ?_
  refine vc_cond rfl (fun hc46 => ?_) (fun hc46 => ?_)
  ·
   refine vs (wr ?_)
   iterate 2 refine wN rfl rfl rfl (v88 rfl ?_)
   refine we rfl (vc_ret (r_then (r_block (r_then (r_then (r_block (r_then (r_fn rfl ?_))))))))
   have hk : okP [.int .i64 pg, .int .i64 a, b] = false := okP_f (by have := of_decide_eq_true hc46; omega)
   show some (AV.tup [.nils, .bool false]) = some (pieces (lrows l))
   rw [pieces, scan_bad hI hri hk]
  have hk : okP [.int .i64 pg, .int .i64 a, b] = true := okP_t (by have := of_decide_eq_false hg17; have := of_decide_eq_false hg22; have := of_decide_eq_false hg27; have := of_decide_eq_false hg32; have := of_decide_eq_false hg38; have := of_decide_eq_false hc46; omega)
  have hkb := okP_bounds hk
  refine vc_skip (n_then (vs (vs (w_regionD (by kernel_rfl) ?_))))
  iterate 3 refine dN rfl rfl rfl (d88 rfl ?_)
  refine d_split 49 rfl (fun hg49 => ?_) (fun hg49 => ?_)
  ·
   refine d88 rfl ?_
   iterate 9 refine dS (wanted_f 49 (by kernel_rfl) rfl) (d88 rfl ?_)
   refine dN rfl rfl rfl (d88 rfl ?_)
   refine d_end rfl ?_
   refine vc_true rfl ?_
   refine vs (wr ?_)
   refine wN rfl rfl rfl (v88 rfl ?_)
   refine wN (v := .ptr 1 0 0) rfl rfl rfl (v88 rfl ?_)
   iterate 2 refine wN rfl rfl rfl (v88 rfl ?_)
   refine w_opH (v := .row false 2 0 (pgs.length + 1)) (env' := _) (H2 := [.dead, _, .arr 3 1 (pgs ++ [[.int .i64 pg]])]) rfl (acc_append (H := [pobj 3 1 pgs, .arr 108 3 [[.int .i64 pg, .int .i64 a, b]]]) (pgs := pgs) (news := [[.int .i64 pg]]) (x := .list .tight [[.int .i64 pg]]) (L := 0) (sz := 1) rfl el35 Tryz.underlying35 rfl zc3 by3 rfl rfl (by decide) (by decide) rfl rfl (by simp) rfl (by have := hI.len; simp; omega)) rfl (rfl) (fun _ h => h) (v88 rfl ?_)
   refine wN rfl rfl rfl (v88 rfl ?_)
   refine we rfl (vc_exit (x_then (x_same (n_then (wr ?_)))))
   iterate 2 refine wN rfl rfl rfl (v88 rfl ?_)
   refine we rfl ?_
   refine hY0 ⟨(i + 1, pgs ++ [[.int .i64 pg]]), scan_new hI hri hk (.inl (by simpa using hg49))⟩ (by have := hI.le; simp only; omega) _ _ [2] ?_ (by decide) (fun _ h => absurd h (by omega)) ⟨.inr ⟨_, rfl, pobj_snoc (scan_new hI hri hk (.inl (by simpa using hg49))).val⟩, trivial⟩
   repeat' first | exact trivial | refine ⟨.inl rfl, ?_⟩ | refine ⟨.inr rfl, ?_⟩ | refine ⟨.inr (IsL.ren1 ‹_›), ?_⟩ | refine ⟨(.inr (pval_snoc rfl)), ?_⟩ | refine ⟨(.inr ?_), ?_⟩ | fail
   all_goals first | exact congrArg some (int_succ (by omega)).symm
  have hi0 : 0 < i := by simp at hg49; omega
  have hrq : (lrows l)[i - 1]? = some (lrows l)[i - 1] := List.getElem?_eq_getElem (by omega)
  obtain ⟨qpg, qa, qb, hqx, hLq, hq1, hq2⟩ := hp _ (List.getElem_mem (show i - 1 < (lrows l).length by omega))
  rw [hqx] at hrq
  have hkq := okP_bounds (hI.ok (i - 1) _ (by omega) hrq)
  refine d88 rfl ?_
  refine dN (v := .ptr 1 0 0) (wanted_t 49 (by kernel_rfl) rfl) rfl rfl (d88 rfl ?_)
  iterate 3 refine dN (wanted_t 49 (by kernel_rfl) rfl) rfl rfl (d88 rfl ?_)
  refine dN (v := .int .i64 ((i - 1 : Nat) : Int)) (wanted_t 49 (by kernel_rfl) rfl) (int_eq (wrap_pred hi0 (by omega))) rfl (d88 rfl ?_)
  first | refine dN (v := .iptr _ [_, _, _]) (wanted_t 49 (by kernel_rfl) rfl) rfl rfl (d88 rfl ?_) | (refine y_index (wanted_t 49 (by kernel_rfl) rfl) rfl ‹_› rfl el52 (by omega) ‹_› rfl (fun bo => ?_); refine d88 rfl ?_)
  refine dN (v := .iptr _ [_, _, _]) (wanted_t 49 (by kernel_rfl) rfl) rfl rfl (d88 rfl ?_)
  iterate 2 refine dN (wanted_t 49 (by kernel_rfl) rfl) rfl rfl (d88 rfl ?_)
  refine dN rfl rfl rfl (d88 rfl ?_)
  refine d_end rfl ?_
  refine vc_cond rfl (fun hc59 => ?_) (fun hc59 => ?_)
  ·
   refine vs (wr ?_)
   refine wN rfl rfl rfl (v88 rfl ?_)
   refine wN (v := .ptr 1 0 0) rfl rfl rfl (v88 rfl ?_)
   iterate 2 refine wN rfl rfl rfl (v88 rfl ?_)
   refine w_opH (v := .row false 2 0 (pgs.length + 1)) (env' := _) (H2 := [.dead, _, .arr 3 1 (pgs ++ [[.int .i64 pg]])]) rfl (acc_append (H := [pobj 3 1 pgs, .arr 108 3 [[.int .i64 pg, .int .i64 a, b]]]) (pgs := pgs) (news := [[.int .i64 pg]]) (x := .list .tight [[.int .i64 pg]]) (L := 0) (sz := 1) rfl el35 Tryz.underlying35 rfl zc3 by3 rfl rfl (by decide) (by decide) rfl rfl (by simp) rfl (by have := hI.len; simp; omega)) rfl (rfl) (fun _ h => h) (v88 rfl ?_)
   refine wN rfl rfl rfl (v88 rfl ?_)
   refine we rfl (vc_exit (x_then (x_same (n_then (wr ?_)))))
   iterate 2 refine wN rfl rfl rfl (v88 rfl ?_)
   refine we rfl ?_
   refine hY0 ⟨(i + 1, pgs ++ [[.int .i64 pg]]), scan_new hI hri hk (.inr ⟨_, hrq, of_decide_eq_true hc59⟩)⟩ (by have := hI.le; simp only; omega) _ _ [2] ?_ (by decide) (fun _ h => absurd h (by omega)) ⟨.inr ⟨_, rfl, pobj_snoc (scan_new hI hri hk (.inr ⟨_, hrq, of_decide_eq_true hc59⟩)).val⟩, trivial⟩
   repeat' first | exact trivial | refine ⟨.inl rfl, ?_⟩ | refine ⟨.inr rfl, ?_⟩ | refine ⟨.inr (IsL.ren1 ‹_›), ?_⟩ | refine ⟨(.inr (pval_snoc rfl)), ?_⟩ | refine ⟨(.inr ?_), ?_⟩ | fail
   all_goals first | exact congrArg some (int_succ (by omega)).symm
  refine vc_skip (n_then (vs (wr ?_)))
  iterate 2 refine wN rfl rfl rfl (v88 rfl ?_)
  refine wN (v := .int .i64 ((i - 1 : Nat) : Int)) rfl (int_eq (wrap_pred hi0 (by omega))) rfl (v88 rfl ?_)
  first | refine wN (v := .iptr _ [_, _, _]) rfl rfl rfl (v88 rfl ?_) | (refine x_index rfl rfl ‹_› rfl el52 (by omega) ‹_› rfl (fun bo => ?_); refine v88 rfl ?_)
  refine wN (v := .agg [_, _, _]) rfl rfl rfl (v88 rfl ?_)
  refine w_opH (v := .ptr 2 0 0) (env' := _) (H2 := [pobj 3 1 pgs, .arr 108 3 [[_, _, _]], .arr 108 3 [[_, _, _]]]) rfl rfl rfl rfl (fun _ h => h) (v88 rfl ?_)
  refine w_op0N (H2 := [pobj 3 1 pgs, .arr 108 3 [[_, _, _]], .arr 108 3 [[_, _, _]]]) rfl rfl rfl (fun _ h => h) ?_
  refine we rfl (vs (wr ?_))
  refine wN (v := .ptr 1 0 0) rfl rfl rfl (v88 rfl ?_)
  refine wN rfl rfl rfl (v88 rfl ?_)
  refine wN (v := .ptr 2 0 0) rfl rfl rfl (v88 rfl ?_)
  iterate 3 refine wN rfl rfl rfl (v88 rfl ?_)
  refine w_split 75 rfl (fun hg75 => ?_) (fun hg75 => ?_)
  ·
   refine v88 rfl ?_
   iterate 9 refine wS (wanted_f 75 (by kernel_rfl) rfl) (v88 rfl ?_)
   refine wN rfl rfl rfl (v88 rfl ?_)
   refine we rfl ?_
   refine vc_true rfl ?_
   refine vs (wr ?_)
   iterate 2 refine wN rfl rfl rfl (v88 rfl ?_)
   refine we rfl (vc_ret (r_block (r_then (r_then (r_block (r_then (r_fn rfl ?_)))))))
   show some (AV.tup [.nils, .bool false]) = some (pieces (lrows l))
   rw [pieces, scan_bad2 hI hri hk hi0 hrq (of_decide_eq_false hc59) (.inl (of_decide_eq_true hg75))]
  refine v88 rfl ?_
  refine wN (v := .ptr 1 0 1) (wanted_t 75 (by kernel_rfl) rfl) rfl rfl (v88 rfl ?_)
  refine wN (wanted_t 75 (by kernel_rfl) rfl) rfl rfl (v88 rfl ?_)
  refine wN (v := .ptr 2 0 1) (wanted_t 75 (by kernel_rfl) rfl) rfl rfl (v88 rfl ?_)
  refine wN (wanted_t 75 (by kernel_rfl) rfl) rfl rfl (v88 rfl ?_)
  refine wN (v := .ptr 2 0 2) (wanted_t 75 (by kernel_rfl) rfl) rfl rfl (v88 rfl ?_)
  refine wN (wanted_t 75 (by kernel_rfl) rfl) rfl rfl (v88 rfl ?_)
  first | refine wN (wanted_t 75 (by kernel_rfl) rfl) rfl rfl (v88 rfl ?_) | refine x_len (wanted_t 75 (by kernel_rfl) rfl) rfl ‹_› Tryz.underlying68 rfl (v88 rfl ?_)
  refine wN (v := .int .i64 (qa + ((lrows qb).length : Int))) (wanted_t 75 (by kernel_rfl) rfl) (int_eq (i64_small (by omega) (by omega))) rfl (v88 rfl ?_)
  refine wN (wanted_t 75 (by kernel_rfl) rfl) rfl rfl (v88 rfl ?_)
  refine wN rfl rfl rfl (v88 rfl ?_)
  refine we rfl ?_
  refine vc_cond rfl (fun hc85 => ?_) (fun hc85 => ?_)
  ·
   refine vs (wr ?_)
   iterate 2 refine wN rfl rfl rfl (v88 rfl ?_)
   refine we rfl (vc_ret (r_block (r_then (r_then (r_block (r_then (r_fn rfl ?_)))))))
   show some (AV.tup [.nils, .bool false]) = some (pieces (lrows l))
   rw [pieces, scan_bad2 hI hri hk hi0 hrq (of_decide_eq_false hc59) (.inr (of_decide_eq_true hc85))]
  refine vc_skip (n_block (n_then (wr ?_)))
  iterate 2 refine wN rfl rfl rfl (v88 rfl ?_)
  refine we rfl ?_
  refine hY0 ⟨(i + 1, pgs), scan_same hI hri hk hi0 hrq (of_decide_eq_false hc59) (fun h => h.elim (of_decide_eq_false hg75) (of_decide_eq_false hc85))⟩ (by have := hI.le; simp only; omega) _ _ [0] ?_ (by decide) (fun _ h => absurd h (by omega)) ⟨pobj_ren hI.val rfl, trivial⟩
  repeat' first | exact trivial | refine ⟨.inl rfl, ?_⟩ | refine ⟨.inr rfl, ?_⟩ | refine ⟨.inr (IsL.ren1 ‹_›), ?_⟩ | refine ⟨(.inr (pval_ren rfl)), ?_⟩ | refine ⟨(.inr ?_), ?_⟩ | fail
  all_goals first | exact congrArg some (int_succ (by omega)).symm
 have hge : ¬ i < (lrows l).length := by simpa using hc10
 refine vc_exit (x_then (x_then (x_same (n_then (vs (wr ?_))))))
 iterate 3 refine wN rfl rfl rfl (v88 rfl ?_)
 refine we rfl (vc_ret (r_fn rfl ?_))
 show retv _ _ = some (pieces (lrows l))
 rw [pieces, scan_end hI (by omega)]
 exact ret_tup2 (ret_pval hI.val rfl) rfl
end Lay
end Go.Vi
namespace Go.Vi
open Go Go.Vi Go.Proofs
attribute [local irreducible] vops vopsD vc
namespace Lay
theorem zc5 : zcOf Tryz.prog 5 = some [.int .u8 0] := by kernel_rfl
theorem by5 : byOf Tryz.prog 5 = some 1 := by kernel_rfl
theorem zc95 : zcOf Tryz.prog 95 = some [.nils, .int .i64 0] := by kernel_rfl
theorem by95 : byOf Tryz.prog 95 = some 32 := by kernel_rfl
theorem z42 : zrOf Tryz.prog 42 = some (.agg [.int .i64 0, .nils]) := by kernel_rfl
theorem z95 : zrOf Tryz.prog 95 = some (.agg [.nils, .int .i64 0]) := by kernel_rfl
theorem sz40 : szOf Tryz.prog 40 = some 1 := by kernel_rfl
theorem sz68 : szOf Tryz.prog 68 = some 1 := by kernel_rfl
theorem sz95 : szOf Tryz.prog 95 = some 2 := by kernel_rfl
theorem sz42 : szOf Tryz.prog 42 = some 2 := by kernel_rfl
theorem sz3 : szOf Tryz.prog 3 = some 1 := by kernel_rfl
theorem sz5 : szOf Tryz.prog 5 = some 1 := by kernel_rfl
def PageIs (r : List AV) : Prop := ∃ t bs st, r = [.list t bs, .int .i64 st] ∧ bs ≠ [] ∧ bs.length ≤ 1000 ∧ ∀ q ∈ bs, ∃ v, q = [.int .u8 v]
def mix : List Nat → List (List AV) → List (List AV)
 | l :: ls, r :: rs => (match r with | [b, s] => [.row false l 0 (lrows b).length, s] | r => r) :: mix ls rs
 | [], rs => rs
 | _ :: _, [] => []
theorem mix_length : ∀ (ls : List Nat) (rs : List (List AV)), (mix ls rs).length = rs.length
 | [], rs => rfl
 | l :: ls, [] => rfl
 | l :: ls, r :: rs => by simp [mix, mix_length ls rs]
theorem mix_snoc : ∀ (ls : List Nat) (rs : List (List AV)) (l : Nat) (b s : AV), rs[ls.length]? = some [b, s] → mix (ls ++ [l]) rs = (mix ls rs).set ls.length [.row false l 0 (lrows b).length, s]
 | [], [], l, b, s, h => by cases h
 | [], r :: rs, l, b, s, h => by simp at h; subst h; simp [mix]
 | a :: ls, [], l, b, s, h => by cases h
 | a :: ls, r :: rs, l, b, s, h => by
   have := mix_snoc ls rs l b s (by simpa using h)
   simp [mix, this]
theorem mix_late : ∀ (ls : List Nat) (rs : List (List AV)) (i : Nat), ls.length ≤ i → (mix ls rs)[i]? = rs[i]?
 | [], rs, i, h => rfl
 | a :: ls, [], i, h => rfl
 | a :: ls, r :: rs, 0, h => by simp at h
 | a :: ls, r :: rs, i + 1, h => by simpa [mix] using mix_late ls rs i (by simpa using h)
theorem bytes_len {bs : List (List AV)} (h : ∀ q ∈ bs, ∃ v, q = [.int .u8 v]) : lenOk 1 bs = true :=
 List.all_eq_true.2 fun q hq => by obtain ⟨v, rfl⟩ := h q hq; rfl
theorem bytes_frz {H : Hp} {bs : List (List AV)} (h : ∀ q ∈ bs, ∃ v, q = [.int .u8 v]) : frzRows H bs = some (H, bs) :=
 frzRows_val fun r hr x hx => by obtain ⟨v, rfl⟩ := h r hr; simp at hx; subst hx; rfl
theorem bytes_val {bs : List (List AV)} (h : ∀ q ∈ bs, ∃ v, q = [.int .u8 v]) : allVal bs = true :=
 List.all_eq_true.2 fun q hq => by obtain ⟨v, rfl⟩ := h q hq; rfl
theorem pages_len {rows : List (List AV)} (h : ∀ r ∈ rows, PageIs r) : lenOk 2 rows = true :=
 List.all_eq_true.2 fun q hq => by obtain ⟨t, bs, st, rfl, _⟩ := h q hq; rfl
theorem pages_frz {H : Hp} {rows : List (List AV)} (h : ∀ r ∈ rows, PageIs r) : frzRows H rows = some (H, rows) :=
 frzRows_val fun r hr x hx => by
  obtain ⟨t, bs, st, rfl, _⟩ := h r hr
  simp at hx
  rcases hx with rfl | rfl <;> rfl
structure Img (H : Hp) (L : Nat) (locs : List Nat) (sh : List (List (List AV) × Int)) : Prop where
 len : locs.length = sh.length
 pg : ∀ rows : List (List AV), H[L]? = some (.arr 95 2 rows) → rows.length = sh.length
 row : ∃ rows : List (List AV), H[L]? = some (.arr 95 2 rows) ∧ rows.length = sh.length ∧ ∀ (i l : Nat) (s : List (List AV) × Int), locs[i]? = some l → sh[i]? = some s → rows[i]? = some [.row false l 0 s.1.length, .int .i64 s.2]
 byt : ∀ (i l : Nat) (s : List (List AV) × Int), locs[i]? = some l → sh[i]? = some s → H[l]? = some (.arr 5 1 s.1)
 nd : locs.Nodup
 ne : ∀ l ∈ locs, l ≠ L
def shOf1 (r : List AV) : List (List AV) × Int := match r with
 | [b, .int _ s] => (lrows b, s)
 | _ => ([], 0)
def shOf (rows : List (List AV)) : List (List (List AV) × Int) := rows.map shOf1
structure CInv (H : Hp) (n0 L : Nat) (last : Int) (rows : List (List AV)) (i : Nat) (Hx : Hp) (locs : List Nat) : Prop where
 len : locs.length = i
 le : i ≤ rows.length
 c : Hx[n0]? = some (.arr 42 2 [[.int .i64 last, .row false L 0 rows.length]])
 r : Hx[n0 + 1]? = some (.arr 42 2 [[.int .i64 0, .nils]])
 pgs : Hx[L]? = some (.arr 95 2 (mix locs rows))
 byt : ∀ (j l : Nat) (r : List AV), locs[j]? = some l → rows[j]? = some r → Hx[l]? = some (.arr 5 1 (shOf1 r).1)
 nd : locs.Nodup
 gt : ∀ l ∈ locs, L < l ∧ l < Hx.length
 pre : ∀ (l : Nat) (o : VO), H[l]? = some o → Hx[l]? = some o
theorem CInv.next {H : Hp} {n0 L : Nat} {last : Int} {rows : List (List AV)} {i : Nat} {Hx : Hp} {locs : List Nat} {o : VO} {t : Tg} {bs : List (List AV)} {st : Int} (h : CInv H n0 L last rows i Hx locs) (hn : H.length = n0) (hL : n0 + 2 ≤ L) (hr : rows[i]? = some [.list t bs, .int .i64 st]) :
 CInv H n0 L last rows (i + 1) ((Hx ++ [o] ++ [VO.arr 5 1 bs]).set L (VO.arr 95 2 ((mix locs rows).set i [.row false (Hx.length + 1) 0 bs.length, .int .i64 st]))) (locs ++ [Hx.length + 1]) := by
 have hlt := (List.getElem?_eq_some_iff.1 hr).1
 have hLl := (List.getElem?_eq_some_iff.1 h.pgs).1
 have hmix := mix_snoc locs rows (Hx.length + 1) _ _ (by rw [h.len]; exact hr)
 rw [h.len] at hmix
 refine ⟨by simp [h.len], hlt, ?_, ?_, ?_, ?_, ?_, ?_, ?_⟩
 · exact get_set (get_app (get_app h.c)) (by omega)
 · exact get_set (get_app (get_app h.r)) (by omega)
 · rw [hmix]
   exact get_self (get_app (get_app h.pgs))
 · intro j l r hl hrj
   by_cases hj : j < i
   · rw [List.getElem?_append_left (by rw [h.len]; exact hj)] at hl
     have := h.gt l (List.mem_of_getElem? hl)
     exact get_set (get_app (get_app (h.byt j l r hl hrj))) (by omega)
   have hji : j = i := by
    have := (List.getElem?_eq_some_iff.1 hl).1
    simp [h.len] at this
    omega
   subst hji
   rw [List.getElem?_append_right (by rw [h.len]; omega)] at hl
   simp [h.len] at hl
   subst hl
   rw [hr] at hrj
   cases hrj
   refine get_set ?_ (by omega)
   rw [List.getElem?_append_right (by simp)]
   simp [shOf1, lrows]
 · rw [List.nodup_append]
   refine ⟨h.nd, by simp, ?_⟩
   intro a ha b hb e
   simp at hb
   have := (h.gt a ha).2
   omega
 · intro l hl
   rcases List.mem_append.1 hl with hl | hl
   · have := h.gt l hl
     simp
     omega
   simp at hl
   subst hl
   simp
   omega
 intro l o' ho
 have hl := (List.getElem?_eq_some_iff.1 ho).1
 exact get_set (get_app (get_app (h.pre l o' ho))) (by omega)
theorem mix_done : ∀ (ls : List Nat) (rs : List (List AV)) (i l : Nat) (r : List AV), ls[i]? = some l → rs[i]? = some r → PageIs r → (mix ls rs)[i]? = some [.row false l 0 (shOf1 r).1.length, .int .i64 (shOf1 r).2]
 | [], rs, i, l, r, h, _, _ => by cases h
 | a :: ls, [], i, l, r, _, h, _ => by cases h
 | a :: ls, r0 :: rs, 0, l, r, h1, h2, hp => by
   simp at h1 h2
   subst h1
   subst h2
   obtain ⟨t, bs, st, rfl, _⟩ := hp
   rfl
 | a :: ls, r0 :: rs, i + 1, l, r, h1, h2, hp => by
   simpa [mix] using mix_done ls rs i l r (by simpa using h1) (by simpa using h2) hp
theorem CInv.img {H : Hp} {n0 L : Nat} {last : Int} {rows : List (List AV)} {i : Nat} {Hx : Hp} {locs : List Nat} {o : VO} (h : CInv H n0 L last rows i Hx locs) (hi : rows.length ≤ i) (hp : ∀ r ∈ rows, PageIs r) (hL : n0 + 2 ≤ L) : Img (Hx.set (n0 + 1) o) L locs (shOf rows) := by
 have hle := h.le
 have hii : i = rows.length := by omega
 have hset : ∀ l o', Hx[l]? = some o' → l ≠ n0 + 1 → (Hx.set (n0 + 1) o)[l]? = some o' := fun l o' ho hne => get_set ho (by omega)
 have hLL := hset L _ h.pgs (by omega)
 have hsh : ∀ j s, (shOf rows)[j]? = some s → ∃ r, rows[j]? = some r ∧ shOf1 r = s := fun j s hs => by
  unfold shOf at hs
  rw [List.getElem?_map] at hs
  exact Option.map_eq_some_iff.1 hs
 refine ⟨by simp [shOf, h.len, hii], fun r hr => ?_, ⟨_, hLL, by simp [mix_length, shOf], fun j l s hl hs => ?_⟩, fun j l s hl hs => ?_, h.nd, fun l hl => by have := (h.gt l hl).1; omega⟩
 · rw [hLL] at hr; cases hr; simp [mix_length, shOf]
 · obtain ⟨r, hr, rfl⟩ := hsh j s hs
   exact mix_done locs rows j l r hl hr (hp r (List.mem_of_getElem? hr))
 obtain ⟨r, hr, rfl⟩ := hsh j s hs
 have := (h.gt l (List.mem_of_getElem? hl)).1
 exact hset l _ (h.byt j l r hl hr) (by omega)
set_option maxHeartbeats 16000000 in
theorem t29 (G : Glob) (H : Hp) (n : Nat) (hn : H.length = n) (t : Tg) (bs : List (List AV)) (hne : bs ≠ []) (hlen : bs.length ≤ 1000) (hb : ∀ q ∈ bs, ∃ v, q = [.int .u8 v]) : XS Tryz.prog G 64 [.list t bs] H (fun r H' => r = .row false n 0 bs.length ∧ H' = H ++ [VO.arr 5 1 bs]) := by
 refine xs_body (fun _ => .iso) Tryz.func64 rfl ?_
 refine vc_norm (env' := [_, _, _, _, _, _, _, _]) (H' := _) rfl rfl ?_
 refine vs (wr ?_)
 refine wN rfl rfl rfl (v8 rfl ?_)
 refine we rfl (vs (vs (wr ?_)))
 iterate 2 refine wN rfl rfl rfl (v8 rfl ?_)
 refine we rfl ?_
 refine vc_cond rfl (fun hc4 => ?_) (fun hc4 => ?_)
 ·
  cases hc4
 refine vc_skip (n_then (vs (wr ?_)))
 iterate 2 refine wN rfl rfl rfl (v8 rfl ?_)
 refine w_opH (v := .row false H.length 0 bs.length) (env' := _) (H2 := H ++ [VO.arr 5 1 bs]) rfl (g_clone (H := H) (x := .list t bs) (rows := bs) (e := 5) el68 Tryz.underlying68 rfl zc5 by5 rfl rfl (by decide) (by decide) (bytes_len hb) rfl hne (bytes_frz hb) (by omega)) rfl (rfl) (fun _ h => h) (v8 rfl ?_)
 refine wN rfl rfl rfl (v8 rfl ?_)
 refine we rfl (vc_ret (r_fn rfl ?_))
 subst hn
 exact ⟨rfl, rfl⟩
set_option maxHeartbeats 16000000 in
theorem t28 (G : Glob) (H : Hp) (t : Tg) (rows : List (List AV)) (hne : rows ≠ []) (hlen : rows.length ≤ 1000) (hp : ∀ r ∈ rows, PageIs r) : XS Tryz.prog G 99 [.list t rows] H (fun r H' => r = .row false H.length 0 rows.length ∧ H' = H ++ [.arr 95 2 rows]) := by
 refine xs_body (fun _ => .iso) Tryz.func99 rfl ?_
 refine vc_norm (env' := [_, _, _, _, _, _, _, _]) (H' := _) rfl rfl ?_
 refine vs (wr ?_)
 refine wN rfl rfl rfl (v8 rfl ?_)
 refine we rfl (vs (vs (wr ?_)))
 iterate 2 refine wN rfl rfl rfl (v8 rfl ?_)
 refine we rfl ?_
 refine vc_cond rfl (fun hc4 => ?_) (fun hc4 => ?_)
 ·
  cases hc4
 refine vc_skip (n_then (vs (wr ?_)))
 iterate 2 refine wN rfl rfl rfl (v8 rfl ?_)
 refine w_opH (v := .row false H.length 0 rows.length) (env' := _) (H2 := H ++ [.arr 95 2 rows]) rfl (g_clone (H := H) (x := .list t rows) (rows := rows) (e := 95) el40 Tryz.underlying40 rfl zc95 by95 rfl rfl (by decide) (by decide) (pages_len hp) rfl hne (pages_frz hp) (by omega)) rfl (rfl) (fun _ h => h) (v8 rfl ?_)
 refine wN rfl rfl rfl (v8 rfl ?_)
 refine we rfl (vc_ret (r_fn rfl ?_))
 exact ⟨rfl, rfl⟩
set_option maxHeartbeats 16000000 in
theorem t15 (G : Glob) (H : Hp) (last : Int) (tg : Tg) (rows : List (List AV)) (hne : rows ≠ []) (hlen : rows.length ≤ 1000) (hp : ∀ r ∈ rows, PageIs r) : XS Tryz.prog G 69 [.agg [.int .i64 last, .list tg rows]] H (fun r H' => ∃ L locs, r = .agg [.int .i64 last, .row false L 0 rows.length] ∧ Img H' L locs (shOf rows) ∧ H.length ≤ L ∧ (∀ l ∈ locs, H.length ≤ l) ∧ ∀ (l : Nat) (o : VO), H[l]? = some o → H'[l]? = some o) := by
 refine xs_body (fun o => match o.op with | .call ⟨.value _, _, _⟩ => .shr | _ => .iso) Tryz.func69 rfl ?_
 refine vc_norm (env' := (_ :: _ :: _ :: _ :: _ :: _ :: _ :: _ :: _ :: _ :: _ :: _ :: _ :: _ :: _ :: _ :: _ :: _ :: _ :: _ :: _ :: _ :: _ :: _ :: _ :: _ :: _ :: [])) (H' := _) rfl rfl ?_
 refine vs (wr ?_)
 refine w_opH (v := .ptr H.length 0 0) (env' := _) (H2 := H ++ [VO.arr 42 2 [[.int .i64 last, .list tg rows]]]) rfl (rfl) rfl (rfl) (fun _ h => h) (v27 rfl ?_)
 refine w_opH (v := .ptr (H.length + 1) 0 0) (env' := _) (H2 := H ++ [VO.arr 42 2 [[.int .i64 last, .list tg rows]]] ++ [VO.arr 42 2 [[.int .i64 0, .nils]]]) rfl (g_alloc z42 rfl (by simp)) rfl (rfl) (fun _ h => h) (v27 rfl ?_)
 have hc1 : (H ++ [VO.arr 42 2 [[.int .i64 last, .list tg rows]]] ++ [VO.arr 42 2 [[.int .i64 0, .nils]]])[H.length]? = some (VO.arr 42 2 [[.int .i64 last, .list tg rows]]) := get_app get_last
 have hr1 : (H ++ [VO.arr 42 2 [[.int .i64 last, .list tg rows]]] ++ [VO.arr 42 2 [[.int .i64 0, .nils]]])[H.length + 1]? = some (VO.arr 42 2 [[.int .i64 0, .nils]]) := by simp
 have hp1 : ∀ (l : Nat) (o : VO), H[l]? = some o → (H ++ [VO.arr 42 2 [[.int .i64 last, .list tg rows]]] ++ [VO.arr 42 2 [[.int .i64 0, .nils]]])[l]? = some o := fun l o h => get_app (get_app h)
 have hl1 : (H ++ [VO.arr 42 2 [[.int .i64 last, .list tg rows]]] ++ [VO.arr 42 2 [[.int .i64 0, .nils]]]).length = H.length + 2 := by simp
 generalize (H ++ [VO.arr 42 2 [[.int .i64 last, .list tg rows]]] ++ [VO.arr 42 2 [[.int .i64 0, .nils]]]) = H1 at hc1 hr1 hp1 hl1 ⊢
 refine we rfl (vs (wr ?_))
 refine wN (v := .ptr H.length 0 1) rfl rfl rfl (v27 rfl ?_)
 refine wN (v := .list tg rows) rfl (g_load hc1 rfl rfl) rfl (v27 rfl ?_)
 refine w_callS rfl rfl rfl (by kernel_rfl) rfl (t28 G _ tg rows hne hlen hp) ?_
 rintro _ _ ⟨rfl, rfl⟩
 refine v27 rfl ?_
 refine wN (v := .ptr H.length 0 1) rfl rfl rfl (v27 rfl ?_)
 refine w_op0N (H2 := ((H1 ++ [VO.arr 95 2 rows]).set H.length (VO.arr 42 2 [[.int .i64 last, .row false H1.length 0 rows.length]]))) rfl (g_store (get_app hc1) rfl rfl sz40 ⟨rfl, by simp, by decide⟩) (rfl) (fun _ h => h) ?_
 have hHl : H1.length = H.length + 2 := hl1
 have hc3 : ((H1 ++ [VO.arr 95 2 rows]).set H.length (VO.arr 42 2 [[.int .i64 last, .row false H1.length 0 rows.length]]))[H.length]? = some (.arr 42 2 [[.int .i64 last, .row false H1.length 0 rows.length]]) := get_self (get_app hc1)
 have hI0 : CInv H H.length H1.length last rows 0 ((H1 ++ [VO.arr 95 2 rows]).set H.length (VO.arr 42 2 [[.int .i64 last, .row false H1.length 0 rows.length]])) [] := ⟨rfl, by omega, hc3, get_set (get_app hr1) (by omega), get_set get_last (by omega), fun j l r h => by simp at h, List.nodup_nil, fun l h => by simp at h, fun l o h => get_set (get_app (hp1 l o h)) (by have := (List.getElem?_eq_some_iff.1 h).1; omega)⟩
 have hL3 : H.length + 2 ≤ H1.length := by omega
 generalize H1.length = L at *
 generalize hH3 : ((H1 ++ [VO.arr 95 2 rows]).set H.length (VO.arr 42 2 [[.int .i64 last, .row false L 0 rows.length]])) = H3 at *
 refine we rfl (vs (vs (wr ?_)))
 refine wN (v := .ptr H.length 0 1) rfl rfl rfl (v27 rfl ?_)
 refine wN (v := .row false L 0 rows.length) rfl (g_load hc3 rfl rfl) rfl (v27 rfl ?_)
 first | refine wN rfl rfl rfl (v27 rfl ?_) | refine x_len rfl rfl ‹_› Tryz.underlying40 rfl (v27 rfl ?_)
 refine wN rfl rfl rfl (v27 rfl ?_)
 refine we rfl (vc_block ?_)
 refine vc_loopX (α := { a : Nat × Hp × List Nat // CInv H H.length L last rows a.1 a.2.1 a.2.2 }) (fun a => ([none, none, none, some .undef, some .undef] ++ (rnone 7 ++ ([some (.int .i64 (a.1.1 : Nat))] ++ (rundef 13 ++ ([none])))))) (fun a => a.1.2.1) (fun a => rows.length - a.1.1) ⟨(0, H3, []), hI0⟩ (by repeat' first | exact trivial | refine ⟨.inr rfl, ?_⟩ | refine ⟨.inl rfl, ?_⟩ | fail) rfl ?_
 rintro ⟨⟨i, Hx, locs⟩, hI⟩ Y0 hY0
 refine vc_norm (env' := (_ :: _ :: _ :: _ :: _ :: _ :: _ :: _ :: _ :: _ :: _ :: _ :: (.int .i64 (i : Int)) :: _ :: _ :: _ :: _ :: _ :: _ :: _ :: _ :: _ :: _ :: _ :: _ :: _ :: _ :: [])) (H' := Hx) rfl rfl ?_
 replace hI : CInv H H.length L last rows i Hx locs := hI
 refine vs (wr ?_)
 refine wN rfl rfl rfl (v27 rfl ?_)
 refine we rfl (vs ?_)
 refine vc_cond rfl (fun hc13 => ?_) (fun hc13 => ?_)
 ·
  have hlt : i < rows.length := by simpa using hc13
  have hri : rows[i]? = some rows[i] := List.getElem?_eq_getElem hlt
  obtain ⟨tb, bs, st, hx, hbs, hbl, hbb⟩ := hp _ (List.getElem_mem hlt)
  rw [hx] at hri
  refine vc_skip (n_then (vs (vc_block (vs (wr ?_)))))
  refine wN rfl rfl rfl (v27 rfl ?_)
  refine wN (v := .ptr L i 0) rfl (g_index0 el40 hI.pgs (by omega) (by omega)) rfl (v27 rfl ?_)
  refine wN (v := .agg [.list tb bs, .int .i64 st]) rfl (g_load hI.pgs ((mix_late locs rows i (by rw [hI.len]; exact Nat.le_refl i)).trans hri) rfl) rfl (v27 rfl ?_)
  refine w_opH (v := .ptr Hx.length 0 0) (env' := _) (H2 := Hx ++ [VO.arr 95 2 [[.nils, .int .i64 0]]]) rfl (g_alloc z95 rfl rfl) rfl (rfl) (fun _ h => h) (v27 rfl ?_)
  refine wN rfl rfl rfl (v27 rfl ?_)
  refine w_op0N (H2 := Hx ++ [VO.arr 95 2 [[.list tb bs, .int .i64 st]]]) rfl (g_store get_last rfl rfl sz95 ⟨rfl, by simp, by decide⟩) (set_last) (fun _ h => h) ?_
  refine we rfl ?_
  refine w_regionW [(Hx ++ [VO.arr 95 2 [[.list tb bs, .int .i64 st]]] ++ [VO.arr 5 1 bs]), ((Hx ++ [VO.arr 95 2 [[.list tb bs, .int .i64 st]]] ++ [VO.arr 5 1 bs]).set L (VO.arr 95 2 ((mix locs rows).set i [.row false (Hx.length + 1) 0 bs.length, .int .i64 st])))] (by kernel_rfl) ?_
  refine e_op (v := .ptr H.length 0 1) (env' := _) rfl (by decide) (show _ = (0, 1) by kernel_rfl) (by decide) (fun _ _ h => h) (fun q h1 h2 => rfl) rfl (w27 rfl ?_)
  refine e_op (v := .row false L 0 rows.length) (env' := _) rfl (by decide) (show _ = (0, 1) by kernel_rfl) (by decide) (fun _ _ h => h) (fun q h1 h2 => (match q, h2 with | 0, _ => g_load (get_app hI.c) rfl rfl | 1, _ => g_load (get_app (get_app hI.c)) rfl rfl | q + 2, h2 => absurd h2 (by omega))) rfl (w27 rfl ?_)
  refine e_op (env' := _) rfl (by decide) (show _ = (0, 1) by kernel_rfl) (by decide) (fun _ _ h => h) (fun q h1 h2 => rfl) rfl (w27 rfl ?_)
  refine e_op (v := .ptr Hx.length 0 0) (env' := _) rfl (by decide) (show _ = (0, 0) by kernel_rfl) (by decide) (fun _ _ h => h) (fun q h1 h2 => rfl) rfl (w27 rfl ?_)
  refine e_op (v := .list tb bs) (env' := _) rfl (by decide) (show _ = (0, 0) by kernel_rfl) (by decide) (fun _ _ h => h) (fun q h1 h2 => (match q, h2 with | 0, _ => g_load get_last rfl rfl | q + 1, h2 => absurd h2 (by omega))) rfl (w27 rfl ?_)
  refine e_callS (H0 := (Hx ++ [VO.arr 95 2 [[.list tb bs, .int .i64 st]]])) (H1 := (Hx ++ [VO.arr 95 2 [[.list tb bs, .int .i64 st]]] ++ [VO.arr 5 1 bs])) (env' := _) rfl rfl rfl (by kernel_rfl) rfl (show _ = (0, 1) by kernel_rfl) rfl rfl (t29 G _ (Hx.length + 1) (by simp) tb bs hbs hbl hbb) rfl (w27 rfl ?_)
  refine e_op (v := .ptr L i 0) (env' := _) rfl (by decide) (show _ = (1, 1) by kernel_rfl) (by decide) (fun _ _ h => h) (fun q h1 h2 => (match q, h1, h2 with | 0, h1, _ => absurd h1 (by omega) | 1, _, _ => g_index0 el40 (get_app (get_app hI.pgs)) (by omega) (by omega) | q + 2, _, h2 => absurd h2 (by omega))) rfl (w27 rfl ?_)
  refine e_op (v := .ptr L i 0) (env' := _) rfl (by decide) (show _ = (1, 1) by kernel_rfl) (by decide) (fun _ _ h => h) (fun q h1 h2 => rfl) rfl (w27 rfl ?_)
  refine e_eff0 (H0 := (Hx ++ [VO.arr 95 2 [[.list tb bs, .int .i64 st]]] ++ [VO.arr 5 1 bs])) (H1 := ((Hx ++ [VO.arr 95 2 [[.list tb bs, .int .i64 st]]] ++ [VO.arr 5 1 bs]).set L (VO.arr 95 2 ((mix locs rows).set i [.row false (Hx.length + 1) 0 bs.length, .int .i64 st])))) rfl rfl (show _ = (1, 2) by kernel_rfl) rfl rfl (fun _ _ h => h) (g_store (k := 0) (x := .row false (Hx.length + 1) 0 bs.length) (cs := [.row false (Hx.length + 1) 0 bs.length]) (get_app (get_app hI.pgs)) ((mix_late locs rows i (by rw [hI.len]; exact Nat.le_refl i)).trans hri) rfl sz68 ⟨rfl, by simp, by decide⟩) ?_
  refine e_endB (H' := ((Hx ++ [VO.arr 95 2 [[.list tb bs, .int .i64 st]]] ++ [VO.arr 5 1 bs]).set L (VO.arr 95 2 ((mix locs rows).set i [.row false (Hx.length + 1) 0 bs.length, .int .i64 st])))) rfl ?_
  refine n_then (wr ?_)
  iterate 2 refine wN rfl rfl rfl (v27 rfl ?_)
  refine we rfl ?_
  refine hY0 ⟨(i + 1, _, _), hI.next rfl hL3 hri⟩ (by simp only; omega) _ _ ?_ rfl
  repeat' first | exact trivial | refine ⟨.inr rfl, ?_⟩ | refine ⟨.inl rfl, ?_⟩ | refine ⟨.inl ?_, ?_⟩ | fail
  all_goals first | exact (int_succ (by omega)).symm
 have hge : ¬ i < rows.length := by simpa using hc13
 refine vc_exit (x_then (x_then (x_same (n_then (vs (wr ?_))))))
 refine wN (v := .agg [.int .i64 last, .row false L 0 rows.length]) rfl (g_load hI.c rfl rfl) rfl (v27 rfl ?_)
 refine w_op0N (H2 := _) rfl (g_store hI.r rfl rfl sz42 ⟨rfl, by simp, by decide⟩) (rfl) (fun _ h => h) ?_
 refine we rfl (vc_ret ?_)
 refine r_fn (vres_cell rfl rfl (g_vload (get_self hI.r) rfl rfl)) ?_
 refine ⟨L, locs, rfl, hI.img (by omega) hp hL3, by omega, fun l hl => by have := (hI.gt l hl).1; omega, fun l o h => ?_⟩
 exact get_set (hI.pre l o h) (by have := (List.getElem?_eq_some_iff.1 h).1; omega)
end Lay
end Go.Vi
namespace Go.Vi
open Go Go.Vi Go.Proofs
attribute [local irreducible] vops vopsD vc
namespace Lay
end Lay
end Go.Vi
namespace Go.Vi
namespace Lay
open Go Go.Vi Go.Proofs
abbrev Sheet := List (List AV) × Int
def lay (b : List (List AV)) (a : Nat) (src : List (List AV)) : List (List AV) := b.take a ++ src ++ b.drop (a + src.length)
theorem lay_length {b src : List (List AV)} {a : Nat} (h : a + src.length ≤ b.length) : (lay b a src).length = b.length := by
 simp [lay]; omega
def Bs (b : List (List AV)) : Prop := ∀ q ∈ b, ∃ v, q = [.int .u8 v]
theorem lay_bs {b src : List (List AV)} {a : Nat} (h1 : Bs b) (h2 : Bs src) : Bs (lay b a src) := by
 intro q hq
 simp only [lay, List.mem_append] at hq
 rcases hq with (hq | hq) | hq
 · exact h1 q (List.mem_of_mem_take hq)
 · exact h2 q hq
 exact h1 q (List.mem_of_mem_drop hq)
def updS (sh : List Sheet) (i : Nat) (f : Sheet → Sheet) : List Sheet := match sh[i]? with
 | some s => sh.set i (f s)
 | none => sh
theorem updS_at {sh : List Sheet} {i : Nat} {f : Sheet → Sheet} {s : Sheet} (h : sh[i]? = some s) : updS sh i f = sh.set i (f s) := by simp [updS, h]
theorem updS_length {sh : List Sheet} {i : Nat} {f : Sheet → Sheet} : (updS sh i f).length = sh.length := by
 unfold updS; split <;> simp
def layP (sh : List Sheet) (r : List AV) : List Sheet := updS sh (pPg r).toNat fun s => (lay s.1 (pAt r).toNat (pBy r), s.2)
def stampP (sh : List Sheet) (p : List AV × List AV) : List Sheet := updS sh (pPg p.1).toNat fun s => (s.1, pPg p.2)
def ShOk (sh : List Sheet) : Prop := ∀ s ∈ sh, s.1.length = 128 ∧ Bs s.1
theorem ShOk.upd {sh : List Sheet} {i : Nat} {f : Sheet → Sheet} (h : ShOk sh) (hf : ∀ s, s.1.length = 128 → Bs s.1 → (f s).1.length = 128 ∧ Bs (f s).1) : ShOk (updS sh i f) := by
 unfold updS
 split
 · rename_i s hs
   intro s' hs'
   rcases List.mem_or_eq_of_mem_set hs' with h1 | rfl
   · exact h s' h1
   obtain ⟨a, b⟩ := h s (List.mem_of_getElem? hs)
   exact hf s a b
 exact h
theorem okP_in {r : List AV} (h : okP r = true) : 0 ≤ pPg r ∧ pPg r < 120 ∧ 0 ≤ pAt r ∧ pAt r < 128 ∧ 1 ≤ (pBy r).length ∧ ((pBy r).length : Int) ≤ 128 - pAt r := by
 simp only [okP, Bool.not_eq_true', Bool.or_eq_false_iff, decide_eq_false_iff_not] at h
 omega
theorem ShOk.lay {sh : List Sheet} {r : List AV} (h : ShOk sh) (hk : okP r = true) (hv : Bs (pBy r)) : ShOk (layP sh r) := by
 have := okP_in hk
 refine h.upd fun s h1 h2 => ⟨?_, lay_bs h2 hv⟩
 show (Lay.lay s.1 _ _).length = 128
 rw [lay_length (by omega)]; exact h1
theorem ShOk.stamp {sh : List Sheet} {p : List AV × List AV} (h : ShOk sh) : ShOk (stampP sh p) := h.upd fun s h1 h2 => ⟨h1, h2⟩
theorem scan_ok : ∀ (l : List (List AV)) (p : Option (List AV)) (pgs : List (List AV)), scan p l = some pgs → (∀ r ∈ l, okP r = true) ∧ ∀ q ∈ pgs, ∃ r ∈ l, q = [.int .i64 (pPg r)]
 | [], p, pgs, h => by
   have e : pgs = [] := by cases p <;> (simp [scan] at h; exact h)
   subst e
   exact ⟨fun r hr => absurd hr (by simp), fun q hq => absurd hq (by simp)⟩
 | r :: l, p, pgs, h => by
   have key : okP r = true → ∀ z, scan (some r) l = some z → (z = pgs ∨ [.int .i64 (pPg r)] :: z = pgs) → (∀ r' ∈ r :: l, okP r' = true) ∧ ∀ q ∈ pgs, ∃ r' ∈ r :: l, q = [.int .i64 (pPg r')] := by
    intro hk z hz he
    obtain ⟨i1, i2⟩ := scan_ok l (some r) z hz
    refine ⟨fun r' hr' => ?_, fun q hq => ?_⟩
    · rcases List.mem_cons.1 hr' with rfl | hr'
      · exact hk
      exact i1 r' hr'
    rcases he with rfl | rfl
    · obtain ⟨r', h1, h2⟩ := i2 q hq
      exact ⟨r', by simp [h1], h2⟩
    rcases List.mem_cons.1 hq with rfl | hq
    · exact ⟨r, by simp, rfl⟩
    obtain ⟨r', h1, h2⟩ := i2 q hq
    exact ⟨r', by simp [h1], h2⟩
   cases p with
   | none =>
     simp only [scan] at h
     split at h
     · rename_i hk
       cases hz : scan (some r) l with
       | none => rw [hz] at h; cases h
       | some z => rw [hz] at h; cases h; exact key hk z hz (.inr rfl)
     cases h
   | some q =>
     simp only [scan] at h
     split at h
     · rename_i hk
       split at h
       · cases hz : scan (some r) l with
         | none => rw [hz] at h; cases h
         | some z => rw [hz] at h; cases h; exact key hk z hz (.inr rfl)
       split at h
       · cases h
       exact key hk pgs h (.inl rfl)
     cases h
def shRows (sh : List Sheet) : List (List AV) := sh.map fun s => [.list .loose s.1, .int .i64 s.2]
def errR (e : Int) : AV := .tup [.agg [.int .i64 0, .nils], .int .i64 e]
def okR (last : Int) (sh : List Sheet) : AV := .tup [.agg [.int .i64 last, .list .loose (shRows sh)], .int .i64 0]
def badW (last0 last : Int) (pgs st : List (List AV)) : Bool := ((st.length : Int) != (pgs.length : Int)) || decide (last < last0) || decide (last > 1000000) || st.any (badN last)
def withOk (rows l pgs st : List (List AV)) : List Sheet := (pgs.zip st).foldl stampP (l.foldl layP (shOf rows))
structure WInv (base : Hp) (Hx : Hp) (q L : Nat) (locs : List Nat) (last0 : Int) (n : Nat) (sh : List Sheet) : Prop where
 img : Img Hx L locs sh
 o : Hx[q]? = some (.arr 42 2 [[.int .i64 last0, .row false L 0 n]])
 low : ∀ (k : Nat) (o : VO), base[k]? = some o → Hx[k]? = some o
 n : sh.length = n
 lq : base.length ≤ q
 lL : base.length ≤ L
 ll : ∀ l ∈ locs, base.length ≤ l
 qL : q ≠ L
 ql : ∀ l ∈ locs, l ≠ q
theorem Img.app {H : Hp} {L : Nat} {locs : List Nat} {sh : List Sheet} {g : Hp} (h : Img H L locs sh) : Img (H ++ g) L locs sh := by
 obtain ⟨rows, h1, h2, h3⟩ := h.row
 exact ⟨h.len, fun r hr => by rw [get_app h1] at hr; cases hr; exact h2, ⟨rows, get_app h1, h2, h3⟩, fun i l s hl hs => get_app (h.byt i l s hl hs), h.nd, h.ne⟩
theorem Img.other {H : Hp} {L k : Nat} {locs : List Nat} {sh : List Sheet} {o : VO} (h : Img H L locs sh) (h1 : k ≠ L) (h2 : k ∉ locs) : Img (H.set k o) L locs sh := by
 obtain ⟨rows, e1, e2, e3⟩ := h.row
 have g1 : (H.set k o)[L]? = some (.arr 95 2 rows) := get_set e1 h1
 exact ⟨h.len, fun r hr => by rw [g1] at hr; cases hr; exact e2, ⟨rows, g1, e2, e3⟩, fun i l s hl hs => get_set (h.byt i l s hl hs) (fun e => h2 (by rw [e]; exact List.mem_of_getElem? hl)), h.nd, h.ne⟩
theorem Img.byte {H : Hp} {L i l : Nat} {locs : List Nat} {sh : List Sheet} {s : Sheet} {b : List (List AV)} (h : Img H L locs sh) (hl : locs[i]? = some l) (hs : sh[i]? = some s) (hb : b.length = s.1.length) : Img (H.set l (.arr 5 1 b)) L locs (sh.set i (b, s.2)) := by
 obtain ⟨rows, e1, e2, e3⟩ := h.row
 have hlL := h.ne l (List.mem_of_getElem? hl)
 have g1 : (H.set l (.arr 5 1 b))[L]? = some (.arr 95 2 rows) := get_set e1 hlL
 have hi := (List.getElem?_eq_some_iff.1 hs).1
 have at' : ∀ (j : Nat) (s' : Sheet), (sh.set i (b, s.2))[j]? = some s' → (j = i ∧ s' = (b, s.2)) ∨ (j ≠ i ∧ sh[j]? = some s') := fun j s' hj => by
  by_cases hji : j = i
  · subst hji
    rw [List.getElem?_set_self hi] at hj
    cases hj; exact .inl ⟨rfl, rfl⟩
  rw [List.getElem?_set_ne (Ne.symm hji)] at hj
  exact .inr ⟨hji, hj⟩
 refine ⟨by simp [h.len], fun r hr => by rw [g1] at hr; cases hr; simp [e2], ⟨rows, g1, by simp [e2], fun j l' s' hl' hs' => ?_⟩, fun j l' s' hl' hs' => ?_, h.nd, h.ne⟩
 · rcases at' j s' hs' with ⟨rfl, rfl⟩ | ⟨hne, hs'⟩
   · rw [e3 j l' s hl' hs]
     simp [hb]
   exact e3 j l' s' hl' hs'
 rcases at' j s' hs' with ⟨rfl, rfl⟩ | ⟨hne, hs'⟩
 · rw [hl] at hl'; cases hl'
   exact get_self (h.byt j l s hl hs)
 refine get_set (h.byt j l' s' hl' hs') fun e => hne ?_
 subst e
 obtain ⟨a1, a2⟩ := List.getElem?_eq_some_iff.1 hl
 obtain ⟨b1, b2⟩ := List.getElem?_eq_some_iff.1 hl'
 exact (List.getElem_inj h.nd).1 (b2.trans a2.symm)
theorem Img.stamp {H : Hp} {L i l : Nat} {locs : List Nat} {sh : List Sheet} {s : Sheet} {k : Int} {rows : List (List AV)} (h : Img H L locs sh) (hr : H[L]? = some (.arr 95 2 rows)) (hl : locs[i]? = some l) (hs : sh[i]? = some s) : Img (H.set L (.arr 95 2 (rows.set i [.row false l 0 s.1.length, .int .i64 k]))) L locs (sh.set i (s.1, k)) := by
 obtain ⟨rows', e1, e2, e3⟩ := h.row
 rw [hr] at e1
 cases e1
 have hi := (List.getElem?_eq_some_iff.1 hs).1
 have g1 := get_self (o' := VO.arr 95 2 (rows.set i [.row false l 0 s.1.length, .int .i64 k])) hr
 have at' : ∀ (j : Nat) (s' : Sheet), (sh.set i (s.1, k))[j]? = some s' → (j = i ∧ s' = (s.1, k)) ∨ (j ≠ i ∧ sh[j]? = some s') := fun j s' hj => by
  by_cases hji : j = i
  · subst hji
    rw [List.getElem?_set_self hi] at hj
    cases hj; exact .inl ⟨rfl, rfl⟩
  rw [List.getElem?_set_ne (Ne.symm hji)] at hj
  exact .inr ⟨hji, hj⟩
 refine ⟨by simp [h.len], fun r hr' => by rw [g1] at hr'; cases hr'; simp [e2], ⟨_, g1, by simp [e2], fun j l' s' hl' hs' => ?_⟩, fun j l' s' hl' hs' => ?_, h.nd, h.ne⟩
 · rcases at' j s' hs' with ⟨rfl, rfl⟩ | ⟨hne, hs'⟩
   · rw [hl] at hl'; cases hl'
     rw [List.getElem?_set_self (by omega)]
   rw [List.getElem?_set_ne (Ne.symm hne)]
   exact e3 j l' s' hl' hs'
 have hlL : L ≠ l' := fun e => h.ne l' (List.mem_of_getElem? hl') e.symm
 rcases at' j s' hs' with ⟨rfl, rfl⟩ | ⟨hne, hs'⟩
 · exact get_set (h.byt j l' s hl' hs) hlL
 exact get_set (h.byt j l' s' hl' hs') hlL
section
variable {base Hx : Hp} {q L n : Nat} {locs : List Nat} {last0 : Int} {sh : List Sheet}
theorem WInv.app {g : Hp} (h : WInv base Hx q L locs last0 n sh) : WInv base (Hx ++ g) q L locs last0 n sh :=
 ⟨h.img.app, get_app h.o, fun k o hk => get_app (h.low k o hk), h.n, h.lq, h.lL, h.ll, h.qL, h.ql⟩
theorem WInv.byte {i l : Nat} {s : Sheet} {b : List (List AV)} (h : WInv base Hx q L locs last0 n sh) (hl : locs[i]? = some l) (hs : sh[i]? = some s) (hb : b.length = s.1.length) : WInv base (Hx.set l (.arr 5 1 b)) q L locs last0 n (sh.set i (b, s.2)) := by
 have hm := List.mem_of_getElem? hl
 exact ⟨h.img.byte hl hs hb, get_set h.o (h.ql l hm), fun k o hk => get_set (h.low k o hk) (by have := (List.getElem?_eq_some_iff.1 hk).1; have := h.ll l hm; omega), by simp [h.n], h.lq, h.lL, h.ll, h.qL, h.ql⟩
theorem WInv.stamp {i l : Nat} {s : Sheet} {k : Int} {rows : List (List AV)} (h : WInv base Hx q L locs last0 n sh) (hr : Hx[L]? = some (.arr 95 2 rows)) (hl : locs[i]? = some l) (hs : sh[i]? = some s) : WInv base (Hx.set L (.arr 95 2 (rows.set i [.row false l 0 s.1.length, .int .i64 k]))) q L locs last0 n (sh.set i (s.1, k)) :=
 ⟨h.img.stamp hr hl hs, get_set h.o (Ne.symm h.qL), fun k o hk => get_set (h.low k o hk) (by have := (List.getElem?_eq_some_iff.1 hk).1; have := h.lL; omega), by simp [h.n], h.lq, h.lL, h.ll, h.qL, h.ql⟩
theorem WInv.at {i : Nat} (h : WInv base Hx q L locs last0 n sh) (hi : i < n) : ∃ l s rows, locs[i]? = some l ∧ sh[i]? = some s ∧ Hx[L]? = some (.arr 95 2 rows) ∧ rows[i]? = some [.row false l 0 s.1.length, .int .i64 s.2] ∧ Hx[l]? = some (.arr 5 1 s.1) := by
 have hn := h.n
 have hlen := h.img.len
 obtain ⟨rows, e1, e2, e3⟩ := h.img.row
 have hl : locs[i]? = some locs[i] := List.getElem?_eq_getElem (by omega)
 have hs : sh[i]? = some sh[i] := List.getElem?_eq_getElem (by omega)
 exact ⟨_, _, rows, hl, hs, e1, e3 i _ _ hl hs, h.img.byt i _ _ hl hs⟩
end
theorem retD_row {d : Nat} {H : Hp} {l n : Nat} {b : Bool} {T : TypeId} {sz : Nat} {rows out : List (List AV)} (h : H[l]? = some (.arr T sz rows)) (hn : rows.length = n) (hr : mapL (mapL (retD d H)) rows = some out) : retD (d + 1) H (.row b l 0 n) = some (.list .loose out) := by
 subst hn
 have hro : rowsOf H (.row b l 0 rows.length) = some rows := by simp [rowsOf, h]
 show (match rowsOf H (.row b l 0 rows.length) with
  | some rows => (mapL (mapL (retD d H)) rows).map (AV.list .loose)
  | none => none) = _
 rw [hro]
 show (mapL (mapL (retD d H)) rows).map (AV.list .loose) = _
 rw [hr]
 rfl
theorem mapL_get2 {α β : Type} {f : α → Option β} : ∀ {xs : List α} {ys : List β}, xs.length = ys.length → (∀ (i : Nat) (x : α) (y : β), xs[i]? = some x → ys[i]? = some y → f x = some y) → mapL f xs = some ys
 | [], [], _, _ => rfl
 | x :: xs, y :: ys, hl, h => mapL_cons (h 0 x y rfl rfl) (mapL_get2 (by simpa using hl) fun i x y hx hy => h (i + 1) x y (by simpa using hx) (by simpa using hy))
theorem Img.ret {H : Hp} {L n : Nat} {locs : List Nat} {sh : List Sheet} (h : Img H L locs sh) (hn : sh.length = n) (hv : ShOk sh) : ret0 H (.row false L 0 n) = some (.list .loose (shRows sh)) := by
 obtain ⟨rows, e1, e2, e3⟩ := h.row
 refine retD_row e1 (by omega) (mapL_get2 (by simp [shRows, e2]) fun i r y hr hy => ?_)
 have hi : i < sh.length := by have := (List.getElem?_eq_some_iff.1 hr).1; omega
 have hi' : i < locs.length := by have := h.len; omega
 have hl : locs[i]? = some locs[i] := List.getElem?_eq_getElem hi'
 have hs : sh[i]? = some sh[i] := List.getElem?_eq_getElem hi
 have hrow := e3 i _ _ hl hs
 rw [hr] at hrow
 cases hrow
 have hy' : y = [.list .loose (sh[i]).1, .int .i64 (sh[i]).2] := by
  simp only [shRows] at hy
  rw [List.getElem?_map, hs] at hy
  cases hy; rfl
 subst hy'
 have hval := bytes_val (hv _ (List.mem_of_getElem? hs)).2
 refine mapL_cons (retD_row (h.byt i _ _ hl hs) rfl (mapL_id fun r hr => mapL_id fun x hx => retD_val (List.all_eq_true.1 (List.all_eq_true.1 hval r hr) x hx))) rfl
theorem ret_img {H : Hp} {last e : Int} {L n : Nat} {locs : List Nat} {sh : List Sheet} (h : Img H L locs sh) (hn : sh.length = n) (hv : ShOk sh) : retv H (.tup [.agg [.int .i64 last, .row false L 0 n], .int .i64 e]) = some (.tup [.agg [.int .i64 last, .list .loose (shRows sh)], .int .i64 e]) := by
 refine ret_tup2 ?_ rfl
 simp only [ret1, mapL, h.ret hn hv]
 rfl
theorem valid_pages {last : Int} {rows : List (List AV)} (hv : validB last rows = true) (hp : ∀ r ∈ rows, PageOk r) : rows.length = 120 ∧ rows ≠ [] ∧ (∀ r ∈ rows, PageIs r) ∧ ShOk (shOf rows) := by
 simp only [validB, Bool.and_eq_true, decide_eq_true_eq, Bool.not_eq_true', List.any_eq_false] at hv
 obtain ⟨⟨⟨h1, h2⟩, h3⟩, h4⟩ := hv
 have h128 : ∀ b st, [b, AV.int .i64 st] ∈ rows → (lrows b).length = 128 := fun b st hr => by
  have := h4 _ hr
  simp only [badS, Bool.not_eq_true, Bool.or_eq_false_iff, bne_eq_false_iff_eq] at this
  omega
 refine ⟨by omega, fun e => by rw [e] at h3; simp at h3, fun r hr => ?_, fun s hs => ?_⟩
 · obtain ⟨b, st, rfl, hL, hb1, hb2⟩ := hp r hr
   have := h128 b st hr
   rcases hL with rfl | ⟨t, bs, rfl⟩
   · simp [lrows] at this
   simp only [lrows] at this hb2
   exact ⟨t, bs, st, rfl, fun e => by rw [e] at this; simp at this, by omega, hb2⟩
 obtain ⟨r, hr, rfl⟩ := List.mem_map.1 hs
 obtain ⟨b, st, rfl, hL, hb1, hb2⟩ := hp r hr
 exact ⟨h128 b st hr, hb2⟩
section
variable {P : Program} {H : Hp}
theorem g_slice0 {t T e : TypeId} {b : Bool} {l m sz : Nat} {rows : List (List AV)} {n : Int} (hu : P.underlying t = some (.slice e)) (hs : szOf P e = some sz) (h1 : H[l]? = some (.arr T sz rows)) (h0 : 0 ≤ n) (hn : n ≤ m) :
 (vslice P H t (.row b l 0 m) (some (.int .i64 n)) none none).map (·, H) = some (.row b l n.toNat (m - n.toNat), H) := by
 rw [g_slice hu hs h1 h0 hn, Nat.zero_add]
theorem g_copyL {t T e : TypeId} {b : Bool} {l i m sz : Nat} {rows rows' : List (List AV)} {x : AV} (he : elemAt P t = some (none, e, sz)) (h1 : H[l]? = some (.arr T sz rows)) (hx : srcRows H x = some rows') (hl : lenOk sz rows' = true) (h0 : sz ≠ 0) (hs : x.isStr = false) (hin : i + m ≤ rows.length) (hm : rows'.length ≤ m) :
 vcopy P H t (.row b l i m) x = some (.int .i64 (rows'.length : Nat), H.set l (.arr T sz (lay rows i rows'))) := by
 rw [g_copy he h1 hx hl h0 hs hin, Nat.min_eq_left hm, List.take_length]
 rfl
end
theorem _root_.Go.Vi.IsL.notStr {x : AV} (h : IsL x) : x.isStr = false := by
 rcases h with rfl | ⟨t, rows, rfl⟩ <;> rfl
end Lay
end Go.Vi
