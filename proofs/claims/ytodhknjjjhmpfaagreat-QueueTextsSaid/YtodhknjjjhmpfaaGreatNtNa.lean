/- Lists of texts: walks. -/
import Derived.Test.YtodhknjjjhmpfaaGreatViY
import Derived.Test.YtodhknjjjhmpfaaGreatProg
set_option autoImplicit false
set_option linter.unusedVariables false
set_option linter.unusedSimpArgs false
set_option maxRecDepth 100000
namespace Go.Vi
open Go Go.Vi Go.Proofs
attribute [local irreducible] vops vopsD vc

theorem el22 : elemAt Tryz.prog 22 = some (none, 9, 1) := by kernel_rfl
def fidx (p : List AV → Bool) (rows : List (List AV)) : Int := match rows.findIdx? p with
  | some i => i
  | none => -1
theorem fidx_at {p : List AV → Bool} {rows : List (List AV)} {i : Nat} {r : List AV} (hn : ∀ j r, j < i → rows[j]? = some r → p r = false) (hr : rows[i]? = some r) (hp : p r = true) : fidx p rows = i := by
  have : rows.findIdx? p = some i := by
    rw [List.findIdx?_eq_some_iff_getElem]
    obtain ⟨h, e⟩ := List.getElem?_eq_some_iff.1 hr
    refine ⟨h, by rw [e]; exact hp, fun j hj => ?_⟩
    have := hn j _ hj (List.getElem?_eq_getElem (by omega))
    simp [this]
  simp [fidx, this]
theorem fidx_no {p : List AV → Bool} {rows : List (List AV)} {i : Nat} (hn : ∀ j r, j < i → rows[j]? = some r → p r = false) (hi : rows.length ≤ i) : fidx p rows = -1 := by
  have : rows.findIdx? p = none := by
    rw [List.findIdx?_eq_none_iff]
    intro x hx
    obtain ⟨j, hj⟩ := List.mem_iff_getElem?.1 hx
    have := (List.getElem?_eq_some_iff.1 hj).1
    exact hn j x (by omega) hj
  simp [fidx, this]
theorem fidx_ge {p : List AV → Bool} {rows : List (List AV)} : decide (fidx p rows ≥ 0) = rows.any p := by
  unfold fidx
  cases h : rows.findIdx? p with
  | none =>
    rw [List.findIdx?_eq_none_iff] at h
    have : rows.any p = false := by
      rw [List.any_eq_false]; intro x hx; simp [h x hx]
    simp [this]
  | some i =>
    rw [List.findIdx?_eq_some_iff_getElem] at h
    obtain ⟨h1, h2, h3⟩ := h
    have : rows.any p = true := by
      rw [List.any_eq_true]; exact ⟨_, List.getElem_mem h1, h2⟩
    simp [this]
theorem upto_succ {p : List AV → Bool} {rows : List (List AV)} {i : Nat} {r : List AV} (hn : ∀ j r, j < i → rows[j]? = some r → p r = false) (hr : rows[i]? = some r) (hp : p r = false) : ∀ j r, j < i + 1 → rows[j]? = some r → p r = false := by
  intro j r' hj hr'
  by_cases h : j = i
  · subst h; rw [hr] at hr'; cases hr'; exact hp
  · exact hn j r' (by omega) hr'
theorem any_no {p : List AV → Bool} {rows : List (List AV)} {i : Nat} (hn : ∀ j r, j < i → rows[j]? = some r → p r = false) (hi : rows.length ≤ i) : rows.any p = false := by
  rw [List.any_eq_false]
  intro x hx
  obtain ⟨j, hj⟩ := List.mem_iff_getElem?.1 hx
  have := (List.getElem?_eq_some_iff.1 hj).1
  simp [hn j x (by omega) hj]
theorem any_yes {p : List AV → Bool} {rows : List (List AV)} {i : Nat} {r : List AV} (hr : rows[i]? = some r) (hp : p r = true) : rows.any p = true := by
  rw [List.any_eq_true]; exact ⟨r, List.mem_of_getElem? hr, hp⟩
def overB (m : Int) (r : List AV) : Bool := match r with
  | .str s :: _ => decide ((s.size : Int) > m)
  | _ => false
def msgB (rows : List (List AV)) : Bool := decide (1 ≤ rows.length) && decide (rows.length ≤ 4) && !rows.any (overB 30)
def Texts (x : AV) : Prop := IsL x ∧ (lrows x).length < 9223372036854775808 ∧ ∀ r ∈ lrows x, ∃ s : ByteArray, r = [.str s]

theorem nLong (G : Glob) (s : ByteArray) : Vi.Fn Tryz.prog G 14 [.str s] (.bool (overB 30 [.str s])) := by
 refine fn_body (fun _ => .iso) Tryz.func14 rfl ?_
 refine vc_norm (env' := [_, _, _, _, _, _]) (H' := []) rfl rfl ?_
 refine vs (wr ?_)
 refine wN rfl rfl rfl (v6 rfl ?_)
 refine we rfl (vs (wr ?_))
 iterate 4 refine wN rfl rfl rfl (v6 rfl ?_)
 refine we rfl (vc_ret (r_fn rfl ?_))
 rfl
theorem nIdx (G : Glob) (x : AV) (g : Nat) (caps : List AV) (p : List AV → Bool) (hL : IsL x) (hlen : (lrows x).length < 9223372036854775808) (hcl : mapL (lend0 []) caps = some caps) (he : enterOk Tryz.prog g = true) (hp : ∀ r ∈ lrows x, ∃ n, r = [n] ∧ lend [] (n) = some (n) ∧ Vi.Fn Tryz.prog G g ((n) :: caps) (.bool (p r))) : Vi.Fn Tryz.prog G 40 [x, .clo g caps] (.int .i64 (fidx p (lrows x))) := by
 refine fn_body (fun _ => .iso) Tryz.func40 rfl ?_
 refine vc_norm (env' := [_, _, _, _, _, _, _, _, _, _, _, _, _, _, _, _, _, _, _]) (H' := []) rfl rfl ?_
 refine vs (wr ?_)
 refine wN rfl rfl rfl (v19 rfl ?_)
 refine we rfl (vs (vs (wr ?_)))
 refine wN rfl rfl rfl (v19 rfl ?_)
 first | refine wN rfl rfl rfl (v19 rfl ?_) | refine x_len rfl rfl ‹_› Tryz.underlying22 rfl (v19 rfl ?_)
 refine wN rfl rfl rfl (v19 rfl ?_)
 refine we rfl (vc_block ?_)
 refine vc_loopU (α := { i : Nat // (∀ j r, j < i → (lrows x)[j]? = some r → p r = false) ∧ i ≤ (lrows x).length }) (fun i => (rnone 4 ++ ([some .undef, some .undef, none, none, some (.int .i64 (i.1 : Nat))] ++ (rundef 10)))) (fun i => (lrows x).length - i.1) ⟨0, fun j r h => by omega, by omega⟩ (by repeat' first | exact trivial | refine ⟨.inr rfl, ?_⟩ | refine ⟨.inl rfl, ?_⟩ | fail) (fun _ => ⟨Nat.zero_le _, (by repeat' first | exact trivial | exact (cellsB_lent hcl) | exact IsL.belowV ‹_› | refine ⟨?_, ?_⟩ | exact IsL.below ‹_› | (simp [valB, leafB, cellsB, IsL.below, *]; done) | (simp [valB, leafB, cellsB, IsL.below, *]; omega) | fail), (by repeat' first | exact trivial | exact IsL.below (by assumption) | refine ⟨?_, ?_⟩ | (simp [leafB]; done))⟩) ?_
 rintro ⟨i, hn, hi⟩ Y0 hY0
 refine vc_norm (env' := [_, _, _, _, _, _, _, _, _, _, _, _, _, _, _, _, _, _, _]) (H' := []) rfl rfl ?_
 refine vs (wr ?_)
 refine wN rfl rfl rfl (v19 rfl ?_)
 refine we rfl (vs ?_)
 refine vc_cond rfl (fun hc9 => ?_) (fun hc9 => ?_)
 ·
  have hlt : i < (lrows x).length := by simpa using hc9
  have hri : (lrows x)[i]? = some (lrows x)[i] := List.getElem?_eq_getElem hlt
  obtain ⟨n, hx, hl, hF⟩ := hp _ (List.getElem_mem hlt)
  rw [hx] at hri hF
  refine vc_skip (n_then (vs (vc_block (vs (wr ?_)))))
  iterate 2 refine wN rfl rfl rfl (v19 rfl ?_)
  refine we rfl (vs (wr ?_))
  iterate 3 refine wN rfl rfl rfl (v19 rfl ?_)
  first | refine wN (v := .iptr _ [_]) rfl rfl rfl (v19 rfl ?_) | (refine x_index rfl rfl ‹_› rfl el22 (by omega) ‹_› rfl (fun bo => ?_); refine v19 rfl ?_)
  refine wN rfl rfl rfl (v19 rfl ?_)
  refine w_callI (env' := _) rfl rfl rfl he rfl (mapL_app hl (lends_of0 hcl)) (hF) rfl (v19 rfl ?_)
  refine we rfl ?_
  refine vc_cond rfl (fun hc16 => ?_) (fun hc16 => ?_)
  ·
   refine vs (wr ?_)
   iterate 2 refine wN rfl rfl rfl (v19 rfl ?_)
   refine we rfl (vc_ret (r_block (r_then (r_then (r_block (r_then (r_fn rfl ?_)))))))
   show some (AV.int .i64 (i : Int)) = _
   rw [fidx_at hn hri hc16]
  ·
   refine vc_skip (n_block (n_then (wr ?_)))
   iterate 2 refine wN rfl rfl rfl (v19 rfl ?_)
   refine we rfl ?_
   refine hY0 ⟨i + 1, upto_succ hn hri (by simpa using hc16), hlt⟩ (by simp only; omega) _ _ _ ?_ rfl
   repeat' first | exact trivial | refine ⟨.inr rfl, ?_⟩ | refine ⟨.inl rfl, ?_⟩ | refine ⟨.inl ?_, ?_⟩ | fail
   all_goals first | exact (int_succ (by omega)).symm
 ·
  have hge : ¬ i < (lrows x).length := by simpa using hc9
  refine vc_exit (x_then (x_then (x_same (n_then (vs (wr ?_))))))
  refine wN rfl rfl rfl (v19 rfl ?_)
  refine we rfl (vc_ret (r_fn rfl ?_))
  show some (AV.int .i64 (-1)) = _
  rw [fidx_no hn (by omega)]
theorem nCont (G : Glob) (x : AV) (g : Nat) (caps : List AV) (p : List AV → Bool) (hL : IsL x) (hlen : (lrows x).length < 9223372036854775808) (hcl : mapL (lend0 []) caps = some caps) (he : enterOk Tryz.prog g = true) (hp : ∀ r ∈ lrows x, ∃ n, r = [n] ∧ lend [] (n) = some (n) ∧ Vi.Fn Tryz.prog G g ((n) :: caps) (.bool (p r))) : Vi.Fn Tryz.prog G 13 [x, .clo g caps] (.bool ((lrows x).any p)) := by
 have hclo : lend [] (.clo g caps) = some (.clo g caps) := lend_clo hcl
 refine fn_body (fun _ => .iso) Tryz.func13 rfl ?_
 refine vc_norm (env' := [_, _, _, _, _, _, _, _, _]) (H' := []) rfl rfl ?_
 refine vs (wr ?_)
 refine wN rfl rfl rfl (v9 rfl ?_)
 refine we rfl (vs (wr ?_))
 iterate 2 refine wN rfl rfl rfl (v9 rfl ?_)
 refine w_callI (env' := _) rfl rfl rfl (by kernel_rfl) rfl (mapL_cons hL.lend (mapL_cons hclo rfl)) (nIdx G x g caps p hL hlen hcl he hp) rfl (v9 rfl ?_)
 iterate 2 refine wN rfl rfl rfl (v9 rfl ?_)
 refine we rfl (vc_ret (r_fn rfl ?_))
 show some (AV.bool (decide (fidx p (lrows x) ≥ 0))) = _
 rw [fidx_ge]
theorem nMsg (G : Glob) (x : AV) (hT : Texts x) : Vi.Fn Tryz.prog G 5 [x] (.bool (msgB (lrows x))) := by
 obtain ⟨hL, hlen, ht⟩ := hT
 refine fn_body (fun _ => .iso) Tryz.func5 rfl ?_
 refine vc_norm (env' := [_, _, _, _, _, _, _, _, _, _, _, _, _, _, _, _]) (H' := []) rfl rfl ?_
 refine vs (wr ?_)
 refine wN rfl rfl rfl (v16 rfl ?_)
 refine we rfl (vs (wr ?_))
 refine wN rfl rfl rfl (v16 rfl ?_)
 first | refine wN rfl rfl rfl (v16 rfl ?_) | refine x_len rfl rfl ‹_› Tryz.underlying22 rfl (v16 rfl ?_)
 iterate 2 refine wN rfl rfl rfl (v16 rfl ?_)
 refine w_split 6 rfl (fun hg6 => ?_) (fun hg6 => ?_)
 ·
  refine v16 rfl ?_
  refine wN (wanted_t 6 (by kernel_rfl) rfl) rfl rfl (v16 rfl ?_)
  first | refine wN (wanted_t 6 (by kernel_rfl) rfl) rfl rfl (v16 rfl ?_) | refine x_len (wanted_t 6 (by kernel_rfl) rfl) rfl ‹_› Tryz.underlying22 rfl (v16 rfl ?_)
  refine wN (wanted_t 6 (by kernel_rfl) rfl) rfl rfl (v16 rfl ?_)
  iterate 2 refine wN rfl rfl rfl (v16 rfl ?_)
  refine w_split 11 rfl (fun hg11 => ?_) (fun hg11 => ?_)
  ·
   refine v16 rfl ?_
   refine wN (wanted_t 11 (by kernel_rfl) rfl) rfl rfl (v16 rfl ?_)
   refine w_callI (env' := _) (wanted_t 11 (by kernel_rfl) rfl) rfl rfl (by kernel_rfl) rfl (mapL_cons hL.lend (mapL_cons rfl rfl)) (nCont G x 14 [] (overB 30) hL hlen rfl (by kernel_rfl) (fun r hr => by obtain ⟨s, rfl⟩ := ht r hr; exact ⟨.str s, rfl, rfl, nLong G s⟩)) rfl (v16 rfl ?_)
   refine wN (wanted_t 11 (by kernel_rfl) rfl) rfl rfl (v16 rfl ?_)
   iterate 2 refine wN rfl rfl rfl (v16 rfl ?_)
   refine we rfl (vc_ret (r_fn rfl ?_))
   show some (AV.bool _) = some (AV.bool _)
   congr 2
   simp_all [msgB]
   all_goals (intros; omega)
  ·
   refine v16 rfl ?_
   iterate 3 refine wS (wanted_f 11 (by kernel_rfl) rfl) (v16 rfl ?_)
   iterate 2 refine wN rfl rfl rfl (v16 rfl ?_)
   refine we rfl (vc_ret (r_fn rfl ?_))
   show some (AV.bool _) = some (AV.bool _)
   congr 2
   simp_all [msgB]
   all_goals (intros; omega)
 ·
  refine v16 rfl ?_
  iterate 3 refine wS (wanted_f 6 (by kernel_rfl) rfl) (v16 rfl ?_)
  iterate 2 refine wN rfl rfl rfl (v16 rfl ?_)
  iterate 3 refine wS (wanted_f 11 (by kernel_rfl) rfl) (v16 rfl ?_)
  iterate 2 refine wN rfl rfl rfl (v16 rfl ?_)
  refine we rfl (vc_ret (r_fn rfl ?_))
  show some (AV.bool _) = some (AV.bool _)
  congr 2
  simp_all [msgB]
  all_goals (intros; omega)
theorem nRef (G : Glob) (x : AV) (hT : Texts x) : Vi.Fn Tryz.prog G 6 [x] (.bool (msgB (lrows x))) := by
 obtain ⟨hL, hlen, ht⟩ := hT
 refine fn_body (fun _ => .iso) Tryz.func6 rfl ?_
 refine vc_norm (env' := (_ :: _ :: _ :: _ :: _ :: _ :: _ :: _ :: _ :: _ :: _ :: _ :: _ :: _ :: _ :: _ :: _ :: _ :: _ :: _ :: _ :: _ :: _ :: _ :: [])) (H' := []) rfl rfl ?_
 refine vs (wr ?_)
 refine wN rfl rfl rfl (v24 rfl ?_)
 refine we rfl (vs (vs (wr ?_)))
 refine wN rfl rfl rfl (v24 rfl ?_)
 refine we rfl (vc_block ?_)
 refine vc_loopU (α := { i : Nat // (∀ j r, j < i → (lrows x)[j]? = some r → overB 30 r = false) ∧ i ≤ (lrows x).length }) (fun i => ([none, none, some .undef, some (.int .i64 (i.1 : Nat))] ++ (rundef 12 ++ (rnone 8)))) (fun i => (lrows x).length - i.1) ⟨0, fun j r h => by omega, by omega⟩ (by repeat' first | exact trivial | refine ⟨.inr rfl, ?_⟩ | refine ⟨.inl rfl, ?_⟩ | fail) (fun _ => ⟨Nat.zero_le _, (by repeat' first | exact trivial | exact IsL.belowV ‹_› | refine ⟨?_, ?_⟩ | exact IsL.below ‹_› | (simp [valB, leafB, cellsB, IsL.below, *]; done) | (simp [valB, leafB, cellsB, IsL.below, *]; omega) | fail), (by repeat' first | exact trivial | exact IsL.below (by assumption) | refine ⟨?_, ?_⟩ | (simp [leafB]; done))⟩) ?_
 rintro ⟨i, hn, hi⟩ Y0 hY0
 refine vc_norm (env' := (_ :: _ :: _ :: _ :: _ :: _ :: _ :: _ :: _ :: _ :: _ :: _ :: _ :: _ :: _ :: _ :: _ :: _ :: _ :: _ :: _ :: _ :: _ :: _ :: [])) (H' := []) rfl rfl ?_
 refine vs (vs (wr ?_))
 iterate 2 refine wN rfl rfl rfl (v24 rfl ?_)
 first | refine wN rfl rfl rfl (v24 rfl ?_) | refine x_len rfl rfl ‹_› Tryz.underlying22 rfl (v24 rfl ?_)
 refine wN rfl rfl rfl (v24 rfl ?_)
 refine we rfl ?_
 refine vc_cond rfl (fun hc7 => ?_) (fun hc7 => ?_)
 ·
  have hlt : i < (lrows x).length := by simpa using hc7
  have hri : (lrows x)[i]? = some (lrows x)[i] := List.getElem?_eq_getElem hlt
  obtain ⟨s, hx⟩ := ht _ (List.getElem_mem hlt)
  rw [hx] at hri
  refine vc_skip (n_then (vs (vc_block (vs (wr ?_)))))
  iterate 2 refine wN rfl rfl rfl (v24 rfl ?_)
  first | refine wN (v := .iptr _ [_]) rfl rfl rfl (v24 rfl ?_) | (refine x_index rfl rfl ‹_› rfl el22 (by omega) ‹_› rfl (fun bo => ?_); refine v24 rfl ?_)
  iterate 3 refine wN rfl rfl rfl (v24 rfl ?_)
  refine we rfl ?_
  refine vc_cond rfl (fun hc15 => ?_) (fun hc15 => ?_)
  ·
   refine vs (wr ?_)
   refine wN rfl rfl rfl (v24 rfl ?_)
   refine we rfl (vc_ret (r_block (r_then (r_then (r_block (r_then (r_fn rfl ?_)))))))
   have ha := any_yes (p := overB 30) hri (by simpa [overB] using hc15)
   show some (AV.bool false) = some (AV.bool _)
   simp [msgB, ha]
  ·
   refine vc_skip (n_block (n_then (wr ?_)))
   iterate 3 refine wN rfl rfl rfl (v24 rfl ?_)
   refine we rfl ?_
   refine hY0 ⟨i + 1, upto_succ hn hri (by simpa [overB] using hc15), hlt⟩ (by simp only; omega) _ _ _ ?_ rfl
   repeat' first | exact trivial | refine ⟨.inr rfl, ?_⟩ | refine ⟨.inl rfl, ?_⟩ | refine ⟨.inl ?_, ?_⟩ | fail
   all_goals first | exact (int_succ (by omega)).symm
 ·
  have hge : ¬ i < (lrows x).length := by simpa using hc7
  refine vc_exit (x_then (x_then (x_same (n_then (vs (wr ?_))))))
  refine wN rfl rfl rfl (v24 rfl ?_)
  first | refine wN rfl rfl rfl (v24 rfl ?_) | refine x_len rfl rfl ‹_› Tryz.underlying22 rfl (v24 rfl ?_)
  iterate 2 refine wN rfl rfl rfl (v24 rfl ?_)
  refine w_split 19 rfl (fun hg19 => ?_) (fun hg19 => ?_)
  ·
   refine v24 rfl ?_
   refine wN (wanted_t 19 (by kernel_rfl) rfl) rfl rfl (v24 rfl ?_)
   first | refine wN (wanted_t 19 (by kernel_rfl) rfl) rfl rfl (v24 rfl ?_) | refine x_len (wanted_t 19 (by kernel_rfl) rfl) rfl ‹_› Tryz.underlying22 rfl (v24 rfl ?_)
   refine wN (wanted_t 19 (by kernel_rfl) rfl) rfl rfl (v24 rfl ?_)
   iterate 2 refine wN rfl rfl rfl (v24 rfl ?_)
   refine we rfl (vc_ret (r_fn rfl ?_))
   have ha := any_no hn (by omega)
   have h1 : 1 ≤ (lrows x).length := by have := of_decide_eq_true hg19; omega
   simp only [msgB, ha, decide_eq_true h1, Bool.true_and, Bool.not_false, Bool.and_true]
   show some (AV.bool _) = some (AV.bool _)
   congr 2
   exact decide_eq_decide.2 (by omega)
  ·
   refine v24 rfl ?_
   iterate 3 refine wS (wanted_f 19 (by kernel_rfl) rfl) (v24 rfl ?_)
   iterate 2 refine wN rfl rfl rfl (v24 rfl ?_)
   refine we rfl (vc_ret (r_fn rfl ?_))
   have ha := any_no hn (by omega)
   have h1 : ¬ 1 ≤ (lrows x).length := by have := of_decide_eq_false hg19; omega
   simp only [msgB, ha, decide_eq_false h1, Bool.false_and]
   rfl
theorem nLaw (G : Glob) (x : AV) (hT : Texts x) (hA : Vi.Fn Tryz.prog G 4 [] (.bool true)) : Vi.Fn Tryz.prog G 3 [x] (.bool true) := by
 obtain ⟨hL, hlen, ht⟩ := hT
 refine fn_body (fun _ => .iso) Tryz.func3 rfl ?_
 refine vc_norm (env' := (_ :: _ :: _ :: _ :: _ :: _ :: _ :: _ :: _ :: _ :: _ :: _ :: _ :: _ :: _ :: _ :: _ :: _ :: _ :: _ :: _ :: _ :: _ :: _ :: _ :: _ :: _ :: _ :: _ :: _ :: [])) (H' := []) rfl rfl ?_
 refine vs (wr ?_)
 refine wN rfl rfl rfl (v30 rfl ?_)
 refine we rfl (vs (vs (wr ?_)))
 refine wN rfl rfl rfl (v30 rfl ?_)
 refine we rfl (vc_block ?_)
 refine vc_loopU (α := { i : Nat // (∀ j r, j < i → (lrows x)[j]? = some r → overB 100 r = false) ∧ i ≤ (lrows x).length }) (fun i => ([none, none, some .undef, some (.int .i64 (i.1 : Nat))] ++ (rundef 13 ++ (rnone 13)))) (fun i => (lrows x).length - i.1) ⟨0, fun j r h => by omega, by omega⟩ (by repeat' first | exact trivial | refine ⟨.inr rfl, ?_⟩ | refine ⟨.inl rfl, ?_⟩ | fail) (fun _ => ⟨Nat.zero_le _, (by repeat' first | exact trivial | exact IsL.belowV ‹_› | refine ⟨?_, ?_⟩ | exact IsL.below ‹_› | (simp [valB, leafB, cellsB, IsL.below, *]; done) | (simp [valB, leafB, cellsB, IsL.below, *]; omega) | fail), (by repeat' first | exact trivial | exact IsL.below (by assumption) | refine ⟨?_, ?_⟩ | (simp [leafB]; done))⟩) ?_
 rintro ⟨i, hn, hi⟩ Y0 hY0
 refine vc_norm (env' := (_ :: _ :: _ :: _ :: _ :: _ :: _ :: _ :: _ :: _ :: _ :: _ :: _ :: _ :: _ :: _ :: _ :: _ :: _ :: _ :: _ :: _ :: _ :: _ :: _ :: _ :: _ :: _ :: _ :: _ :: [])) (H' := []) rfl rfl ?_
 refine vs (vs (wr ?_))
 iterate 2 refine wN rfl rfl rfl (v30 rfl ?_)
 first | refine wN rfl rfl rfl (v30 rfl ?_) | refine x_len rfl rfl ‹_› Tryz.underlying22 rfl (v30 rfl ?_)
 refine wN rfl rfl rfl (v30 rfl ?_)
 refine we rfl ?_
 refine vc_cond rfl (fun hc7 => ?_) (fun hc7 => ?_)
 ·
  have hlt : i < (lrows x).length := by simpa using hc7
  have hri : (lrows x)[i]? = some (lrows x)[i] := List.getElem?_eq_getElem hlt
  obtain ⟨s, hx⟩ := ht _ (List.getElem_mem hlt)
  rw [hx] at hri
  refine vc_skip (n_then (vs (vc_block (vs (wr ?_)))))
  iterate 2 refine wN rfl rfl rfl (v30 rfl ?_)
  first | refine wN (v := .iptr _ [_]) rfl rfl rfl (v30 rfl ?_) | (refine x_index rfl rfl ‹_› rfl el22 (by omega) ‹_› rfl (fun bo => ?_); refine v30 rfl ?_)
  iterate 3 refine wN rfl rfl rfl (v30 rfl ?_)
  refine we rfl ?_
  refine vc_cond rfl (fun hc15 => ?_) (fun hc15 => ?_)
  ·
   refine vs (wr ?_)
   refine w_callI (env' := _) rfl rfl rfl (by kernel_rfl) rfl mapL_nil (hA) rfl (v30 rfl ?_)
   refine wN rfl rfl rfl (v30 rfl ?_)
   refine we rfl (vc_ret (r_block (r_then (r_then (r_block (r_then (r_fn rfl ?_)))))))
   first | rfl | (simp at hg26; done)
  ·
   refine vc_skip (n_block (n_then (wr ?_)))
   iterate 3 refine wN rfl rfl rfl (v30 rfl ?_)
   refine we rfl ?_
   refine hY0 ⟨i + 1, upto_succ hn hri (by simpa [overB] using hc15), hlt⟩ (by simp only; omega) _ _ _ ?_ rfl
   repeat' first | exact trivial | refine ⟨.inr rfl, ?_⟩ | refine ⟨.inl rfl, ?_⟩ | refine ⟨.inl ?_, ?_⟩ | fail
   all_goals first | exact (int_succ (by omega)).symm
 ·
  have hge : ¬ i < (lrows x).length := by simpa using hc7
  refine vc_exit (x_then (x_then (x_same (n_then (vs (wr ?_))))))
  refine wN rfl rfl rfl (v30 rfl ?_)
  first | refine wN rfl rfl rfl (v30 rfl ?_) | refine x_len rfl rfl ‹_› Tryz.underlying22 rfl (v30 rfl ?_)
  iterate 2 refine wN rfl rfl rfl (v30 rfl ?_)
  refine w_split 20 rfl (fun hg20 => ?_) (fun hg20 => ?_)
  ·
   refine v30 rfl ?_
   iterate 6 refine wS (wanted_f 20 (by kernel_rfl) rfl) (v30 rfl ?_)
   refine wS (wanted_k 26 (by kernel_rfl) rfl) (v30 rfl ?_)
   refine wS (wanted_f 20 (by kernel_rfl) rfl) (v30 rfl ?_)
   iterate 2 refine wN rfl rfl rfl (v30 rfl ?_)
   refine we rfl (vc_ret (r_fn rfl ?_))
   first | rfl | (simp at hg26; done)
  ·
   refine v30 rfl ?_
   refine wN (wanted_t 20 (by kernel_rfl) rfl) rfl rfl (v30 rfl ?_)
   refine w_callI (env' := _) (wanted_t 20 (by kernel_rfl) rfl) rfl rfl (by kernel_rfl) rfl (mapL_cons hL.lend rfl) (nMsg G x ⟨hL, hlen, ht⟩) rfl (v30 rfl ?_)
   refine wN (wanted_t 20 (by kernel_rfl) rfl) rfl rfl (v30 rfl ?_)
   refine w_callI (env' := _) (wanted_t 20 (by kernel_rfl) rfl) rfl rfl (by kernel_rfl) rfl (mapL_cons hL.lend rfl) (nRef G x ⟨hL, hlen, ht⟩) rfl (v30 rfl ?_)
   iterate 2 refine wN (wanted_t 20 (by kernel_rfl) rfl) rfl rfl (v30 rfl ?_)
   refine w_split 26 rfl (fun hg26 => ?_) (fun hg26 => ?_)
   ·
    refine v30 rfl ?_
    refine w_callI (env' := _) (wanted_t 26 (by kernel_rfl) rfl) rfl rfl (by kernel_rfl) rfl mapL_nil (hA) rfl (v30 rfl ?_)
    refine wN (wanted_t 20 (by kernel_rfl) rfl) rfl rfl (v30 rfl ?_)
    iterate 2 refine wN rfl rfl rfl (v30 rfl ?_)
    refine we rfl (vc_ret (r_fn rfl ?_))
    first | rfl | (simp at hg26; done)
   ·
    refine v30 rfl ?_
    refine wS (wanted_f 26 (by kernel_rfl) rfl) (v30 rfl ?_)
    refine wN (wanted_t 20 (by kernel_rfl) rfl) rfl rfl (v30 rfl ?_)
    iterate 2 refine wN rfl rfl rfl (v30 rfl ?_)
    refine we rfl (vc_ret (r_fn rfl ?_))
    first | rfl | (simp at hg26; done)
end Go.Vi
