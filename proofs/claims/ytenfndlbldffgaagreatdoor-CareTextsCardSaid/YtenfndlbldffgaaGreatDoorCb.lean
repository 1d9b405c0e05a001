/- Part of the proof of the tied card of CareTexts: types of a base, indexes, ways; texts as lists. Conditions: none of its own. -/
import Derived.Test.YtenfndlbldffgaaGreatDoorCa
import Derived.Test.YtenfndlbldffgaaGreatDoorVb
import Derived.Lib.Strings
import Derived.Lib.Bytealg
set_option autoImplicit false
set_option linter.unusedVariables false
set_option linter.unusedSimpArgs false
set_option maxRecDepth 100000
namespace Go.Vi
open Go Go.Vi Go.Proofs
attribute [local irreducible] vops vopsD vc
theorem el22 : elemAt Tryz.prog 22 = some (none, 62, 8) := by kernel_rfl
theorem el35 : elemAt Tryz.prog 35 = some (none, 3, 1) := by kernel_rfl
theorem sz62 : szOf Tryz.prog 62 = some 8 := by kernel_rfl
theorem sz3 : szOf Tryz.prog 3 = some 1 := by kernel_rfl
theorem zc3 : zcOf Tryz.prog 3 = some [.int .i64 0] := by kernel_rfl
theorem by3 : byOf Tryz.prog 3 = some 8 := by kernel_rfl
structure TypesIs (x : AV) (ts : List PT) : Prop where
 isL : IsL x
 rows : lrows x = ts.map encT
 each : ∀ t ∈ ts, TypeIs t
 vals : ∀ t ∈ ts, t.fx.isVal = true
 len : ts.length < 9223372036854775808
def twiceT (ts : List PT) (n : ByteArray) : Bool := ts.any fun u => seq u.name n
theorem any_nameT {ts : List PT} {n : ByteArray} : (ts.map encT).any (nameIs n) = twiceT ts n := by
 simp only [List.any_map, twiceT]
 rfl
theorem encT_len {ts : List PT} : lenOk 8 (ts.map encT) = true := List.all_eq_true.2 fun r hr => by
 obtain ⟨f, _, rfl⟩ := List.mem_map.1 hr
 rfl
def wrows (ws : List Int) : List (List AV) := ws.map fun w => [.int .i64 w]
theorem wrows_val {ws : List Int} : allVal (wrows ws) = true := List.all_eq_true.2 fun r hr => by
 obtain ⟨w, _, rfl⟩ := List.mem_map.1 hr
 rfl
def intIs (v : Int) (r : List AV) : Bool := match r with
 | [.int _ w] => v == w
 | _ => false
theorem fidx_range {p : List AV → Bool} {rows : List (List AV)} : -1 ≤ fidx p rows ∧ fidx p rows < rows.length := by
 unfold fidx
 cases h : rows.findIdx? p with
 | none => simp; omega
 | some i =>
   rw [List.findIdx?_eq_some_iff_getElem] at h
   obtain ⟨h1, _⟩ := h
   simp; omega
def lentv (rows : List (List AV)) : AV := if rows = [] then .nils else .list .bor rows
theorem lentv_L {rows : List (List AV)} : IsL (lentv rows) := by
 unfold lentv; split
 · exact .inl rfl
 · exact .inr ⟨_, _, rfl⟩
theorem lrows_lentv {rows : List (List AV)} : lrows (lentv rows) = rows := by
 unfold lentv; split
 · rename_i h; simp [lrows, h]
 · rfl
theorem lend_pval {H : Hp} {L : Nat} {e : TypeId} {sz : Nat} {rows : List (List AV)} (hv : allVal rows = true) (h : H[L]? = some (pobj e sz rows)) : lend H (pval L rows) = some (lentv rows) := by
 unfold pval lentv
 split
 · rfl
 · rename_i hp
   simp only [pobj, if_neg hp] at h
   have hr : rowsOf H (.row false L 0 rows.length) = some rows := by simp [rowsOf, h]
   show (match rowsOf H (.row false L 0 rows.length) with
    | some rows => if allVal rows = true then some (AV.list Tg.bor rows) else none
    | none => none) = _
   rw [hr]
   simp only [hv, if_true]
def pcut (L : Nat) (rows : List (List AV)) (m : Nat) : AV := if rows = [] then .nils else .row false L 0 m
theorem pcut_run {P : Program} {H : Hp} {t e : TypeId} {L sz m : Nat} {rows : List (List AV)} (hu : P.underlying t = some (.slice e)) (hs : szOf P e = some sz) (h : H[L]? = some (pobj e sz rows)) (hm : m ≤ rows.length) :
 (vslice P H t (pval L rows) none (some (.int .i64 (m : Int))) none).map (·, H) = some (pcut L rows m, H) := by
 have hb : ∀ k, m ≤ k → vbounds k none (some (.int .i64 (m : Int))) none = some (0, m, none) := fun k hk => by simp [vbounds, bnd, hk]
 by_cases hp : rows = []
 · subst hp
   simp only [List.length_nil] at hm
   simp only [pval, pcut, if_true, vslice, hu, hs, hb 0 hm, Option.map_some]
 · simp only [pobj, if_neg hp] at h
   simp only [pval, pcut, if_neg hp, vslice, hu, hs, hb rows.length hm, h, if_true, Option.map_some]
   simp [cutT]
theorem acc_cut {P : Program} {H : Hp} {L m : Nat} {rows news : List (List AV)} {t t2 e : TypeId} {sz by_ : Nat} {d2 : TypeDesc} {zc : List AV} {x : AV} (hL : H[L]? = some (pobj e sz rows)) (hm : m ≤ rows.length) (he : elemAt P t = some (none, e, sz)) (hu : P.underlying t2 = some d2) (hd : isInt d2 = false) (hz : zcOf P e = some zc) (hb : byOf P e = some by_)
 (hx : srcRows H x = some news) (hl : zc.length = sz) (h0 : sz ≠ 0) (hb0 : by_ ≠ 0) (hlo : lenOk sz news = true) (hs : x.isStr = false) (hne : news ≠ []) (hv : allVal news = true) (hsz : (m + news.length) * by_ ≤ 140737488355328) :
 vappend P H t t2 (pcut L rows m) x = some (.row false H.length 0 (m + news.length), H.set L .dead ++ [.arr e sz (rows.take m ++ news)]) := by
 have hf : frzRows H news = some (H, news) := frzRows_val fun r hr x hx => frz_val (List.all_eq_true.1 (List.all_eq_true.1 hv r hr) x hx)
 have hn0 : ¬ news.length = 0 := by simpa using hne
 unfold vappend vappendF
 simp only [he, hu, hd, hz, hb, hx, Bool.false_eq_true, if_false]
 rw [if_pos ⟨hl, h0, hb0, hlo, by simp [hs], by unfold pcut; split <;> rfl⟩, if_neg hn0, hf]
 simp only
 by_cases hp : rows = []
 · subst hp
   simp only [pobj, if_true] at hL
   simp only [List.length_nil] at hm
   obtain rfl : m = 0 := by omega
   have hset : H.set L .dead = H := by
    obtain ⟨h1, h2⟩ := List.getElem?_eq_some_iff.1 hL
    rw [← h2]; simp
   simp only [pcut, if_true, hset]
   rw [if_pos (by simpa using hsz)]
   simp
 · simp only [pobj, if_neg hp] at hL
   simp only [pcut, if_neg hp, hL]
   rw [if_pos (by refine ⟨?_, ?_, ?_⟩ <;> first | trivial | exact hsz | omega | simp)]
   simp
def keyBytes (t : PT) : Int := match t.fields[t.key.toNat]? with
 | some f => f.bytes
 | none => 0
def rootBad (t : PT) : Bool := (t.parent != -1) || decide (t.key < 0) || !t.unique || decide (keyBytes t > 24)
def wayAt (ws : List Int) (v : Int) : Int := fidx (intIs v) (wrows ws)
def stepT (ts : List PT) (i : Nat) (ws : List Int) (t : PT) : Option (List Int) :=
 if (typeOk t && !twiceT (ts.take i) t.name) = true then
  if (if i = 0 then rootBad t else decide (wayAt ws t.parent < 0)) = true then none
  else if (wayAt ws t.parent + 1).toNat + 1 > 5 then none else some (ws.take (wayAt ws t.parent + 1).toNat ++ [(i : Int)])
 else none
def typesFrom (ts : List PT) : Nat → List Int → List PT → Bool
 | _, _, [] => true
 | i, ws, t :: rest => match stepT ts i ws t with
   | some ws' => typesFrom ts (i + 1) ws' rest
   | none => false
def typesOk (ts : List PT) : Bool := !(decide ((ts.length : Int) < 1) || decide ((ts.length : Int) > 8)) && typesFrom ts 0 [] ts
structure TInv (ts : List PT) (i : Nat) (ws : List Int) : Prop where
 le : i ≤ ts.length
 len : ws.length ≤ i
 eq : typesFrom ts 0 [] ts = typesFrom ts i ws (ts.drop i)
theorem tinv0 (ts : List PT) : TInv ts 0 [] := ⟨by omega, by simp, rfl⟩
theorem drop_at' {α : Type} {l : List α} {i : Nat} {r : α} (hr : l[i]? = some r) : l.drop i = r :: l.drop (i + 1) := by
 obtain ⟨h1, h2⟩ := List.getElem?_eq_some_iff.1 hr
 rw [List.drop_eq_getElem_cons h1, h2]
theorem TInv.bad {ts : List PT} {i : Nat} {ws : List Int} {t : PT} (h : TInv ts i ws) (ht : ts[i]? = some t) (hs : stepT ts i ws t = none) : typesOk ts = false := by
 simp only [typesOk, h.eq, drop_at' ht, typesFrom, hs, Bool.and_false]
theorem TInv.next {ts : List PT} {i : Nat} {ws ws' : List Int} {t : PT} (h : TInv ts i ws) (ht : ts[i]? = some t) (hs : stepT ts i ws t = some ws') : TInv ts (i + 1) ws' := by
 have hlt := (List.getElem?_eq_some_iff.1 ht).1
 refine ⟨hlt, ?_, ?_⟩
 · unfold stepT at hs
   by_cases h1 : (typeOk t && !twiceT (ts.take i) t.name) = true
   · rw [if_pos h1] at hs
     by_cases h2 : (if i = 0 then rootBad t else decide (wayAt ws t.parent < 0)) = true
     · rw [if_pos h2] at hs; cases hs
     · rw [if_neg h2] at hs
       by_cases h3 : (wayAt ws t.parent + 1).toNat + 1 > 5
       · rw [if_pos h3] at hs; cases hs
       · rw [if_neg h3] at hs
         cases hs
         have := h.len
         simp
         omega
   · rw [if_neg h1] at hs; cases hs
 · rw [h.eq, drop_at' ht]
   simp only [typesFrom, hs]
theorem typeOk_key {t : PT} (h : typeOk t = true) (hk : 0 ≤ t.key) : t.key.toNat < t.fields.length := by
 simp only [typeOk, Bool.and_eq_true] at h
 obtain ⟨_, h⟩ := h
 rw [if_neg (by omega)] at h
 split at h
 · cases h
 · omega
set_option maxHeartbeats 4000000 in
theorem zTypeEq (G : Glob) (t u : PT) (bo : Bool) : Vi.Fn Tryz.prog G 107 [.agg (encT t), .iptr bo (encT u)] (.bool (seq t.name u.name)) := by
 refine fn_body (fun _ => .iso) Tryz.func107 rfl ?_
 refine vc_norm (env' := [_, _, _, _, _, _, _, _, _]) (H' := []) rfl rfl ?_
 refine vs (wr ?_)
 refine w_opH (v := .ptr 0 0 0) (env' := _) (H2 := [.arr 62 8 [[_, _, _, _, _, _, _, _]]]) rfl rfl rfl rfl (fun _ h => h) (v9 rfl ?_)
 refine wN rfl rfl rfl (v9 rfl ?_)
 refine we rfl (vs (wr ?_))
 refine wN (v := .ptr 0 0 0) rfl rfl rfl (v9 rfl ?_)
 refine wN rfl rfl rfl (v9 rfl ?_)
 refine wN (v := .iptr _ [_, _, _, _, _, _, _, _]) rfl rfl rfl (v9 rfl ?_)
 iterate 3 refine wN rfl rfl rfl (v9 rfl ?_)
 refine we rfl (vc_ret (r_fn rfl ?_))
 rfl
set_option maxHeartbeats 4000000 in
theorem zIdxT (G : Glob) (x : AV) (g : Nat) (caps : List AV) (p : List AV → Bool) (hL : IsL x) (hlen : (lrows x).length < 9223372036854775808) (hk : ∀ r ∈ lrows x, r.length = 8) (hcl : mapL (lend0 []) caps = some caps) (he : enterOk Tryz.prog g = true) (hp : ∀ r ∈ lrows x, lend [] (.agg r) = some (.agg r) ∧ Vi.Fn Tryz.prog G g (.agg r :: caps) (.bool (p r))) : Vi.Fn Tryz.prog G 83 [x, .clo g caps] (.int .i64 (fidx p (lrows x))) := by
 refine fn_body (fun _ => .iso) Tryz.func83 rfl ?_
 refine vc_norm (env' := [_, _, _, _, _, _, _, _, _, _, _, _, _, _, _, _, _, _, _]) (H' := []) rfl rfl ?_
 refine vs (wr ?_)
 refine wN rfl rfl rfl (v19 rfl ?_)
 refine we rfl (vs (vs (wr ?_)))
 refine wN rfl rfl rfl (v19 rfl ?_)
 first | refine wN rfl rfl rfl (v19 rfl ?_) | refine x_len rfl rfl ‹_› Tryz.underlying22 rfl (v19 rfl ?_)
 refine wN rfl rfl rfl (v19 rfl ?_)
 refine we rfl (vc_block ?_)
 refine vc_loopU (α := { i : Nat // (∀ j r, j < i → (lrows x)[j]? = some r → p r = false) ∧ i ≤ (lrows x).length }) (fun i => (rnone 4 ++ ([some .undef, some .undef, none, none, some (.int .i64 (i.1 : Nat))] ++ (rundef 10)))) (fun i => (lrows x).length - i.1) ⟨0, fun j r h => by omega, by omega⟩ (by repeat' first | exact trivial | refine ⟨.inr rfl, ?_⟩ | refine ⟨.inl rfl, ?_⟩ | fail) (fun _ => ⟨Nat.zero_le _, (by repeat' first | exact trivial | exact (cellsB_lent hcl) | exact IsL.belowV ‹_› | refine ⟨?_, ?_⟩ | exact IsL.below ‹_› | (simp [valB, leafB, cellsB, IsL.below, *]; done) | (simp [valB, leafB, cellsB, IsL.below, *]; omega) | fail), (by repeat' first | exact trivial | exact IsL.below (by assumption) | refine ⟨?_, ?_⟩ | (simp [leafB]; done))⟩) ?_
 rintro ⟨i, hn, hi⟩ Y0 hY0
 refine vc_norm (env' := [_, _, _, _, _, _, _, _, _, _, _, _, _, _, _, _, _, _, _]) (H' := []) rfl rfl ?_
 refine vs (wr ?_)
 refine wN rfl rfl rfl (v19 rfl ?_)
 refine we rfl (vs ?_)
 refine vc_cond rfl (fun hc9 => ?_) (fun hc9 => ?_)
 ·
  have hlt : i < (lrows x).length := by simpa using hc9
  obtain ⟨r, hri⟩ : ∃ r, (lrows x)[i]? = some r := ⟨_, List.getElem?_eq_getElem hlt⟩
  obtain ⟨hl, hF⟩ := hp r (List.mem_of_getElem? hri)
  have hrk := hk r (List.mem_of_getElem? hri)
  obtain ⟨c0, c1, c2, c3, c4, c5, c6, c7, rfl⟩ : ∃ c0 c1 c2 c3 c4 c5 c6 c7, r = [c0, c1, c2, c3, c4, c5, c6, c7] := by
   match r, hrk with
   | [c0, c1, c2, c3, c4, c5, c6, c7], _ => exact ⟨c0, c1, c2, c3, c4, c5, c6, c7, rfl⟩
  refine vc_skip (n_then (vs (vc_block (vs (wr ?_)))))
  iterate 2 refine wN rfl rfl rfl (v19 rfl ?_)
  refine we rfl (vs (wr ?_))
  iterate 3 refine wN rfl rfl rfl (v19 rfl ?_)
  first | refine wN (v := .iptr _ [_, _, _, _, _, _, _, _]) rfl rfl rfl (v19 rfl ?_) | (refine x_index rfl rfl ‹_› rfl el22 (by omega) ‹_› rfl (fun bo => ?_); refine v19 rfl ?_)
  refine wN (v := .agg [_, _, _, _, _, _, _, _]) rfl rfl rfl (v19 rfl ?_)
  refine w_callI (env' := _) rfl rfl rfl he rfl (mapL_app hl (lends_of0 hcl)) (hF) rfl (v19 rfl ?_)
  refine we rfl ?_
  refine vc_cond rfl (fun hc16 => ?_) (fun hc16 => ?_)
  ·
   refine vs (wr ?_)
   iterate 2 refine wN rfl rfl rfl (v19 rfl ?_)
   refine we rfl (vc_ret (r_block (r_then (r_then (r_block (r_then (r_fn rfl ?_)))))))
   show some (AV.int .i64 (i : Int)) = _
   rw [fidx_at hn hri hc16]
  ·
   refine vc_skip (n_block (n_then (wr ?_)))
   iterate 2 refine wN rfl rfl rfl (v19 rfl ?_)
   refine we rfl ?_
   refine hY0 ⟨i + 1, upto_succ hn hri (by simpa using hc16), hlt⟩ (by simp only; omega) _ _ _ ?_ rfl
   repeat' first | exact trivial | refine ⟨.inr rfl, ?_⟩ | refine ⟨.inl rfl, ?_⟩ | refine ⟨.inl ?_, ?_⟩ | fail
   all_goals first | exact (int_succ (by omega)).symm
 ·
  have hge : ¬ i < (lrows x).length := by simpa using hc9
  refine vc_exit (x_then (x_then (x_same (n_then (vs (wr ?_))))))
  refine wN rfl rfl rfl (v19 rfl ?_)
  refine we rfl (vc_ret (r_fn rfl ?_))
  show some (AV.int .i64 (-1)) = _
  rw [fidx_no hn (by omega)]
set_option maxHeartbeats 4000000 in
theorem zHasT (G : Glob) (x : AV) (g : Nat) (caps : List AV) (p : List AV → Bool) (hL : IsL x) (hlen : (lrows x).length < 9223372036854775808) (hk : ∀ r ∈ lrows x, r.length = 8) (hcl : mapL (lend0 []) caps = some caps) (he : enterOk Tryz.prog g = true) (hp : ∀ r ∈ lrows x, lend [] (.agg r) = some (.agg r) ∧ Vi.Fn Tryz.prog G g (.agg r :: caps) (.bool (p r))) : Vi.Fn Tryz.prog G 106 [x, .clo g caps] (.bool ((lrows x).any p)) := by
 have hclo : lend [] (.clo g caps) = some (.clo g caps) := lend_clo hcl
 refine fn_body (fun _ => .iso) Tryz.func106 rfl ?_
 refine vc_norm (env' := [_, _, _, _, _, _, _, _, _]) (H' := []) rfl rfl ?_
 refine vs (wr ?_)
 refine wN rfl rfl rfl (v9 rfl ?_)
 refine we rfl (vs (wr ?_))
 iterate 2 refine wN rfl rfl rfl (v9 rfl ?_)
 refine w_callI (env' := _) rfl rfl rfl (by kernel_rfl) rfl (mapL_cons hL.lend (mapL_cons hclo rfl)) (zIdxT G x g caps p hL hlen hk hcl he hp) rfl (v9 rfl ?_)
 iterate 2 refine wN rfl rfl rfl (v9 rfl ?_)
 refine we rfl (vc_ret (r_fn rfl ?_))
 show some (AV.bool (decide (fidx p (lrows x) ≥ 0))) = _
 rw [fidx_ge]
set_option maxHeartbeats 4000000 in
theorem zIndexI (G : Glob) (x : AV) (ws : List Int) (v : Int) (hL : IsL x) (hr : lrows x = wrows ws) (hlen : ws.length < 9223372036854775808) : Vi.Fn Tryz.prog G 108 [x, .int .i64 v] (.int .i64 (wayAt ws v)) := by
 have hxl : (lrows x).length = ws.length := by rw [hr]; simp [wrows]
 refine fn_body (fun _ => .iso) Tryz.func108 rfl ?_
 refine vc_norm (env' := [_, _, _, _, _, _, _, _, _, _, _, _, _, _, _, _, _, _, _]) (H' := []) rfl rfl ?_
 refine vs (wr ?_)
 refine wN rfl rfl rfl (v19 rfl ?_)
 refine we rfl (vs (vs (wr ?_)))
 refine wN rfl rfl rfl (v19 rfl ?_)
 first | refine wN rfl rfl rfl (v19 rfl ?_) | refine x_len rfl rfl ‹_› Tryz.underlying35 rfl (v19 rfl ?_)
 refine wN rfl rfl rfl (v19 rfl ?_)
 refine we rfl (vc_block ?_)
 refine vc_loopU (α := { i : Nat // (∀ j r, j < i → (wrows ws)[j]? = some r → intIs v r = false) ∧ i ≤ ws.length }) (fun i => (rnone 4 ++ ([some .undef, some .undef, none, none, some (.int .i64 (i.1 : Nat))] ++ (rundef 10)))) (fun i => ws.length - i.1) ⟨0, fun j r h => by omega, by omega⟩ (by repeat' first | exact trivial | refine ⟨.inr rfl, ?_⟩ | refine ⟨.inl rfl, ?_⟩ | fail) (fun _ => ⟨Nat.zero_le _, (by repeat' first | exact trivial | exact IsL.belowV ‹_› | refine ⟨?_, ?_⟩ | exact IsL.below ‹_› | (simp [valB, leafB, cellsB, IsL.below, *]; done) | (simp [valB, leafB, cellsB, IsL.below, *]; omega) | fail), (by repeat' first | exact trivial | exact IsL.below (by assumption) | refine ⟨?_, ?_⟩ | (simp [leafB]; done))⟩) ?_
 rintro ⟨i, hn, hi⟩ Y0 hY0
 refine vc_norm (env' := [_, _, _, _, _, _, _, _, .int .i64 (i : Int), _, _, _, _, _, _, _, _, _, _]) (H' := []) rfl rfl ?_
 refine vs (wr ?_)
 refine wN rfl rfl rfl (v19 rfl ?_)
 refine we rfl (vs ?_)
 refine vc_cond rfl (fun hc9 => ?_) (fun hc9 => ?_)
 ·
  have hlt : i < ws.length := by have := of_decide_eq_true hc9; omega
  obtain ⟨w, hw⟩ : ∃ w, ws[i]? = some w := ⟨_, List.getElem?_eq_getElem hlt⟩
  have hrw : (wrows ws)[i]? = some [.int .i64 w] := by rw [wrows, List.getElem?_map, hw]; rfl
  have hri : (lrows x)[i]? = some [.int .i64 w] := by rw [hr]; exact hrw
  refine vc_skip (n_then (vs (vc_block (vs (wr ?_)))))
  iterate 2 refine wN rfl rfl rfl (v19 rfl ?_)
  refine we rfl (vs (wr ?_))
  iterate 3 refine wN rfl rfl rfl (v19 rfl ?_)
  first | refine wN (v := .iptr _ [_]) rfl rfl rfl (v19 rfl ?_) | (refine x_index rfl rfl ‹_› rfl el35 (by omega) ‹_› rfl (fun bo => ?_); refine v19 rfl ?_)
  iterate 2 refine wN rfl rfl rfl (v19 rfl ?_)
  refine we rfl ?_
  refine vc_cond rfl (fun hc16 => ?_) (fun hc16 => ?_)
  ·
   refine vs (wr ?_)
   iterate 2 refine wN rfl rfl rfl (v19 rfl ?_)
   refine we rfl (vc_ret (r_block (r_then (r_then (r_block (r_then (r_fn rfl ?_)))))))
   show some (AV.int .i64 (i : Int)) = _
   rw [wayAt, fidx_at hn hrw hc16]
  ·
   refine vc_skip (n_block (n_then (wr ?_)))
   iterate 2 refine wN rfl rfl rfl (v19 rfl ?_)
   refine we rfl ?_
   refine hY0 ⟨i + 1, upto_succ hn hrw hc16, hlt⟩ (by simp only; omega) _ _ _ ?_ rfl
   repeat' first | exact trivial | refine ⟨.inr rfl, ?_⟩ | refine ⟨.inl rfl, ?_⟩ | refine ⟨.inl ?_, ?_⟩ | fail
   all_goals first | exact (int_succ (by omega)).symm
 ·
  have hge : ¬ i < ws.length := by have := of_decide_eq_false hc9; omega
  refine vc_exit (x_then (x_then (x_same (n_then (vs (wr ?_))))))
  refine wN rfl rfl rfl (v19 rfl ?_)
  refine we rfl (vc_ret (r_fn rfl ?_))
  show some (AV.int .i64 (-1)) = _
  rw [wayAt, fidx_no hn (by simp [wrows]; omega)]
set_option maxHeartbeats 4000000 in
theorem zAreTypes (G : Glob) (x : AV) (ts : List PT) (hx : TypesIs x ts) : Vi.Fn Tryz.prog G 77 [x] (.bool (typesOk ts)) := by
 have hL := hx.isL
 have hxl : (lrows x).length = ts.length := by rw [hx.rows]; simp
 refine fn_body (fun _ => .iso) Tryz.func77 rfl ?_
 refine vc_norm (env' := (_ :: _ :: _ :: _ :: _ :: _ :: _ :: _ :: _ :: _ :: _ :: _ :: _ :: _ :: _ :: _ :: _ :: _ :: _ :: _ :: _ :: _ :: _ :: _ :: _ :: _ :: _ :: _ :: _ :: _ :: _ :: _ :: _ :: _ :: _ :: _ :: _ :: _ :: _ :: _ :: _ :: _ :: _ :: _ :: _ :: _ :: _ :: _ :: _ :: _ :: _ :: _ :: _ :: _ :: _ :: _ :: _ :: _ :: _ :: _ :: _ :: _ :: _ :: _ :: _ :: _ :: _ :: _ :: _ :: _ :: _ :: _ :: _ :: _ :: _ :: _ :: _ :: _ :: _ :: _ :: _ :: _ :: [])) (H' := []) rfl rfl ?_
 refine vs (wr ?_)
 refine wN rfl rfl rfl (v82 rfl ?_)
 refine we rfl (vs (vs (wr ?_)))
 refine wN rfl rfl rfl (v82 rfl ?_)
 first | refine wN rfl rfl rfl (v82 rfl ?_) | refine x_len rfl rfl ‹_› Tryz.underlying22 rfl (v82 rfl ?_)
 iterate 2 refine wN rfl rfl rfl (v82 rfl ?_)
 refine w_split 10 rfl (fun hg10 => ?_) (fun hg10 => ?_)
 ·
  rw [hxl] at hg10
  refine v82 rfl ?_
  iterate 3 refine wS (wanted_f 10 (by kernel_rfl) rfl) (v82 rfl ?_)
  refine wN rfl rfl rfl (v82 rfl ?_)
  refine we rfl ?_
  refine vc_true rfl ?_
  refine vs (wr ?_)
  refine wN rfl rfl rfl (v82 rfl ?_)
  refine we rfl (vc_ret (r_then (r_fn rfl ?_)))
  show some (AV.bool false) = some (AV.bool (typesOk ts))
  rw [typesOk, hg10]
  rfl
 ·
  rw [hxl] at hg10
  refine v82 rfl ?_
  refine wN (wanted_t 10 (by kernel_rfl) rfl) rfl rfl (v82 rfl ?_)
  first | refine wN (wanted_t 10 (by kernel_rfl) rfl) rfl rfl (v82 rfl ?_) | refine x_len (wanted_t 10 (by kernel_rfl) rfl) rfl ‹_› Tryz.underlying22 rfl (v82 rfl ?_)
  refine wN (wanted_t 10 (by kernel_rfl) rfl) rfl rfl (v82 rfl ?_)
  refine wN rfl rfl rfl (v82 rfl ?_)
  refine we rfl ?_
  refine vc_cond rfl (fun hc14 => ?_) (fun hc14 => ?_)
  ·
   refine vs (wr ?_)
   refine wN rfl rfl rfl (v82 rfl ?_)
   refine we rfl (vc_ret (r_then (r_fn rfl ?_)))
   rw [hxl] at hc14
   show some (AV.bool false) = some (AV.bool (typesOk ts))
   rw [typesOk, hc14, Bool.or_true]
   rfl
  ·
   have h8 : ts.length ≤ 8 := by have := of_decide_eq_false hc14; omega
   refine vc_skip (n_then (vs (wr ?_)))
   refine wN rfl rfl rfl (v82 rfl ?_)
   refine we rfl (vs (vs (wr ?_)))
   refine wN rfl rfl rfl (v82 rfl ?_)
   first | refine wN rfl rfl rfl (v82 rfl ?_) | refine x_len rfl rfl ‹_› Tryz.underlying22 rfl (v82 rfl ?_)
   refine wN rfl rfl rfl (v82 rfl ?_)
   refine we rfl (vc_block ?_)
   refine vc_loopN (α := { a : Nat × List Int // TInv ts a.1 a.2 }) (fun a => ([none, none, some .undef, some (pval 0 (wrows a.1.2)), some .undef, some .undef, some .undef] ++ (rnone 10 ++ ([some (.int .i64 (a.1.1 : Nat))] ++ (rundef 64))))) (fun a => [pobj 3 1 (wrows a.1.2)]) (fun a => ts.length - a.1.1) ⟨(0, []), tinv0 _⟩ [0] (by repeat' first | exact trivial | refine ⟨.inl rfl, ?_⟩ | refine ⟨.inr rfl, ?_⟩ | refine ⟨.inr (IsL.ren1 ‹_›), ?_⟩ | fail) (by decide) (fun _ h => absurd h (by omega)) ⟨.inl rfl, trivial⟩ (fun a => ⟨Nat.zero_le _, (by repeat' first | exact trivial | exact .inr ⟨_, rfl, rfl⟩ | exact IsL.valN ‹_› | exact (pval_N rfl) | refine ⟨?_, ?_⟩ | fail), ⟨pobj_N wrows_val, trivial⟩⟩) ?_
   rintro ⟨⟨i, ws⟩, hI⟩ Y0 hY0
   refine vc_norm (env' := (_ :: _ :: _ :: (pval 0 (wrows ws)) :: _ :: _ :: _ :: _ :: _ :: _ :: _ :: _ :: _ :: _ :: _ :: _ :: _ :: (.int .i64 (i : Int)) :: _ :: _ :: _ :: _ :: _ :: _ :: _ :: _ :: _ :: _ :: _ :: _ :: _ :: _ :: _ :: _ :: _ :: _ :: _ :: _ :: _ :: _ :: _ :: _ :: _ :: _ :: _ :: _ :: _ :: _ :: _ :: _ :: _ :: _ :: _ :: _ :: _ :: _ :: _ :: _ :: _ :: _ :: _ :: _ :: _ :: _ :: _ :: _ :: _ :: _ :: _ :: _ :: _ :: _ :: _ :: _ :: _ :: _ :: _ :: _ :: _ :: _ :: _ :: _ :: [])) (H' := [pobj 3 1 (wrows ws)]) rfl rfl ?_
   replace hI : TInv ts i ws := hI
   refine vs (wr ?_)
   refine wN rfl rfl rfl (v82 rfl ?_)
   refine we rfl (vs ?_)
   refine vc_cond rfl (fun hc18 => ?_) (fun hc18 => ?_)
   ·
    have hlt : i < ts.length := by have := of_decide_eq_true hc18; omega
    obtain ⟨t, htt⟩ : ∃ t, ts[i]? = some t := ⟨_, List.getElem?_eq_getElem hlt⟩
    have hri : (lrows x)[i]? = some [.str t.name, .int .i64 t.parent, .int .i64 t.min, .int .i64 t.size, t.fx, .int .i64 t.key, .bool t.unique, .bool t.last] := by rw [hx.rows, List.getElem?_map, htt]; rfl
    have hti := hx.each t (List.mem_of_getElem? htt)
    have htv := hx.vals t (List.mem_of_getElem? htt)
    have hfL := hti.fx.isL
    obtain ⟨y, hy, hyL, hyr⟩ := sl_take (P := Tryz.prog) (H := [pobj 3 1 (wrows ws), VO.arr 62 8 [[.str t.name, .int .i64 t.parent, .int .i64 t.min, .int .i64 t.size, t.fx, .int .i64 t.key, .bool t.unique, .bool t.last]]]) (n := i) hL Tryz.underlying22 sz62 (by rw [hx.rows]; exact encT_len) (by omega)
    have hyr2 : lrows y = (ts.take i).map encT := by rw [hyr, hx.rows, List.map_take]
    have hcont := zHasT G y 107 [.iptr true [.str t.name, .int .i64 t.parent, .int .i64 t.min, .int .i64 t.size, t.fx, .int .i64 t.key, .bool t.unique, .bool t.last]] (nameIs t.name) hyL (by rw [hyr]; simp; have := hx.len; omega) (fun r hr => by rw [hyr2] at hr; obtain ⟨g, _, rfl⟩ := List.mem_map.1 hr; rfl) rfl (by kernel_rfl) (fun r hr => by rw [hyr2] at hr; obtain ⟨g, hg, rfl⟩ := List.mem_map.1 hr; exact ⟨lend_agg (mapL_cons rfl (mapL_cons rfl (mapL_cons rfl (mapL_cons rfl (mapL_cons (hx.each g (List.mem_of_mem_take hg)).fx.isL.lend0 rfl))))), zTypeEq G g t true⟩)
    rw [hyr2, any_nameT] at hcont
    refine vc_skip (n_then (vs (vc_block (vs (wr ?_)))))
    refine wN rfl rfl rfl (v82 rfl ?_)
    first | refine wN (v := .iptr _ [_, _, _, _, _, _, _, _]) rfl rfl rfl (v82 rfl ?_) | (refine x_index rfl rfl ‹_› rfl el22 (by omega) ‹_› rfl (fun bo => ?_); refine v82 rfl ?_)
    refine wN (v := .agg [_, _, _, _, _, _, _, _]) rfl rfl rfl (v82 rfl ?_)
    refine w_opH (v := .ptr 1 0 0) (env' := _) (H2 := [pobj 3 1 (wrows ws), .arr 62 8 [[_, _, _, _, _, _, _, _]]]) rfl rfl rfl rfl (fun _ h => h) (v82 rfl ?_)
    refine wN rfl rfl rfl (v82 rfl ?_)
    refine w_op0N (H2 := [pobj 3 1 (wrows ws), .arr 62 8 [[_, _, _, _, _, _, _, _]]]) rfl rfl rfl (fun _ h => h) ?_
    refine we rfl (vs (vs (wr ?_)))
    refine wN (v := .agg [_, _, _, _, _, _, _, _]) rfl rfl rfl (v82 rfl ?_)
    refine w_callI (env' := _) rfl rfl rfl (by kernel_rfl) rfl (by repeat' first | exact IsL.lend ‹_› | exact IsL.lend0 ‹_› | refine mapL_cons ?_ ?_ | refine lend_agg ?_ | rfl) (zIsType G t hti) rfl (v82 rfl ?_)
    iterate 2 refine wN rfl rfl rfl (v82 rfl ?_)
    refine w_split 25 rfl (fun hg25 => ?_) (fun hg25 => ?_)
    ·
     refine v82 rfl ?_
     iterate 5 refine wS (wanted_f 25 (by kernel_rfl) rfl) (v82 rfl ?_)
     refine wN rfl rfl rfl (v82 rfl ?_)
     refine we rfl ?_
     refine vc_true rfl ?_
     refine vs (wr ?_)
     refine wN rfl rfl rfl (v82 rfl ?_)
     refine we rfl (vc_ret (r_then (r_block (r_then (r_then (r_block (r_then (r_fn rfl ?_))))))))
     have hs : stepT ts i ws t = none := by rw [stepT, if_neg (by rw [show typeOk t = false by simpa using hg25]; simp)]
     show some (AV.bool false) = some (AV.bool (typesOk ts))
     rw [hI.bad htt hs]
    ·
     refine v82 rfl ?_
     iterate 2 refine wN (wanted_t 25 (by kernel_rfl) rfl) rfl rfl (v82 rfl ?_)
     refine wN (v := y) (wanted_t 25 (by kernel_rfl) rfl) (hy) rfl (v82 rfl ?_)
     refine wN (wanted_t 25 (by kernel_rfl) rfl) rfl rfl (v82 rfl ?_)
     refine w_callI (env' := _) (wanted_t 25 (by kernel_rfl) rfl) rfl rfl (by kernel_rfl) rfl (mapL_app hyL.lend (mapL_cons (lend_cloG (mapL_cons (lend0_ptr rfl rfl (by simp [isVal_int, isVal_bool, isVal_str, htv])) rfl)) rfl)) (hcont) rfl (v82 rfl ?_)
     refine wN rfl rfl rfl (v82 rfl ?_)
     refine we rfl ?_
     refine vc_cond rfl (fun hc31 => ?_) (fun hc31 => ?_)
     ·
      refine vs (wr ?_)
      refine wN rfl rfl rfl (v82 rfl ?_)
      refine we rfl (vc_ret (r_then (r_block (r_then (r_then (r_block (r_then (r_fn rfl ?_))))))))
      have hs : stepT ts i ws t = none := by rw [stepT, if_neg (by rw [hc31]; simp)]
      show some (AV.bool false) = some (AV.bool (typesOk ts))
      rw [hI.bad htt hs]
     ·
      have h1t : typeOk t = true := by simpa using hg25
      have hok : (typeOk t && !twiceT (ts.take i) t.name) = true := by rw [h1t, hc31]; rfl
      have hat := fidx_range (p := intIs t.parent) (rows := wrows ws)
      have hwrl : (wrows ws).length = ws.length := by simp [wrows]
      have hIl := hI.len
      have hxlen := hx.len
      refine vc_skip (n_then (vs (wr ?_)))
      refine wN rfl rfl rfl (v82 rfl ?_)
      refine wN (v := .ptr 1 0 1) rfl rfl rfl (v82 rfl ?_)
      refine wN rfl rfl rfl (v82 rfl ?_)
      refine w_callI (env' := _) rfl rfl rfl (by kernel_rfl) rfl (mapL_app (lend_pval wrows_val rfl) (mapL_cons rfl rfl)) (zIndexI G (lentv (wrows ws)) ws t.parent lentv_L lrows_lentv (by have := hI.len; have := hx.len; have := hI.le; omega)) rfl (v82 rfl ?_)
      refine wN rfl rfl rfl (v82 rfl ?_)
      refine we rfl (vs (vs (wr ?_)))
      iterate 3 refine wN rfl rfl rfl (v82 rfl ?_)
      refine w_split 38 rfl (fun hg38 => ?_) (fun hg38 => ?_)
      ·
       refine v82 rfl ?_
       refine wN (v := .ptr 1 0 1) (wanted_t 38 (by kernel_rfl) rfl) rfl rfl (v82 rfl ?_)
       iterate 3 refine wN (wanted_t 38 (by kernel_rfl) rfl) rfl rfl (v82 rfl ?_)
       refine w_split 42 rfl (fun hg42 => ?_) (fun hg42 => ?_)
       ·
        refine v82 rfl ?_
        iterate 3 refine wS (wanted_f 42 (by kernel_rfl) rfl) (v82 rfl ?_)
        iterate 2 refine wN (wanted_t 38 (by kernel_rfl) rfl) rfl rfl (v82 rfl ?_)
        iterate 3 refine wS (wanted_f 47 (by kernel_rfl) rfl) (v82 rfl ?_)
        iterate 2 refine wN (wanted_t 38 (by kernel_rfl) rfl) rfl rfl (v82 rfl ?_)
        iterate 8 refine wS (wanted_f 52 (by kernel_rfl) rfl) (v82 rfl ?_)
        refine wN (wanted_t 38 (by kernel_rfl) rfl) rfl rfl (v82 rfl ?_)
        iterate 2 refine wN rfl rfl rfl (v82 rfl ?_)
        iterate 3 refine wS (wanted_f 63 (by kernel_rfl) rfl) (v82 rfl ?_)
        iterate 2 refine wS (wanted_k 66 (by kernel_rfl) rfl) (v82 rfl ?_)
        refine wS (wanted_f 63 (by kernel_rfl) rfl) (v82 rfl ?_)
        refine wN rfl rfl rfl (v82 rfl ?_)
        refine we rfl ?_
        refine vc_true rfl ?_
        refine vs (wr ?_)
        refine wN rfl rfl rfl (v82 rfl ?_)
        refine we rfl (vc_ret (r_then (r_block (r_then (r_then (r_block (r_then (r_fn rfl ?_))))))))
        have hs : stepT ts i ws t = none := by rw [stepT, if_pos hok, if_pos (by rw [if_pos (show i = 0 by simp at hg38; omega)]; simp only [rootBad, hg42, Bool.true_or, Bool.or_true])]
        show some (AV.bool false) = some (AV.bool (typesOk ts))
        rw [hI.bad htt hs]
       ·
        refine v82 rfl ?_
        refine wN (v := .ptr 1 0 5) (wanted_t 42 (by kernel_rfl) rfl) rfl rfl (v82 rfl ?_)
        iterate 2 refine wN (wanted_t 42 (by kernel_rfl) rfl) rfl rfl (v82 rfl ?_)
        iterate 2 refine wN (wanted_t 38 (by kernel_rfl) rfl) rfl rfl (v82 rfl ?_)
        refine w_split 47 rfl (fun hg47 => ?_) (fun hg47 => ?_)
        ·
         refine v82 rfl ?_
         iterate 3 refine wS (wanted_f 47 (by kernel_rfl) rfl) (v82 rfl ?_)
         iterate 2 refine wN (wanted_t 38 (by kernel_rfl) rfl) rfl rfl (v82 rfl ?_)
         iterate 8 refine wS (wanted_f 52 (by kernel_rfl) rfl) (v82 rfl ?_)
         refine wN (wanted_t 38 (by kernel_rfl) rfl) rfl rfl (v82 rfl ?_)
         iterate 2 refine wN rfl rfl rfl (v82 rfl ?_)
         iterate 3 refine wS (wanted_f 63 (by kernel_rfl) rfl) (v82 rfl ?_)
         iterate 2 refine wS (wanted_k 66 (by kernel_rfl) rfl) (v82 rfl ?_)
         refine wS (wanted_f 63 (by kernel_rfl) rfl) (v82 rfl ?_)
         refine wN rfl rfl rfl (v82 rfl ?_)
         refine we rfl ?_
         refine vc_true rfl ?_
         refine vs (wr ?_)
         refine wN rfl rfl rfl (v82 rfl ?_)
         refine we rfl (vc_ret (r_then (r_block (r_then (r_then (r_block (r_then (r_fn rfl ?_))))))))
         have hs : stepT ts i ws t = none := by rw [stepT, if_pos hok, if_pos (by rw [if_pos (show i = 0 by simp at hg38; omega)]; simp only [rootBad, hg47, Bool.true_or, Bool.or_true])]
         show some (AV.bool false) = some (AV.bool (typesOk ts))
         rw [hI.bad htt hs]
        ·
         refine v82 rfl ?_
         refine wN (v := .ptr 1 0 6) (wanted_t 47 (by kernel_rfl) rfl) rfl rfl (v82 rfl ?_)
         iterate 2 refine wN (wanted_t 47 (by kernel_rfl) rfl) rfl rfl (v82 rfl ?_)
         iterate 2 refine wN (wanted_t 38 (by kernel_rfl) rfl) rfl rfl (v82 rfl ?_)
         refine w_split 52 rfl (fun hg52 => ?_) (fun hg52 => ?_)
         ·
          refine v82 rfl ?_
          iterate 8 refine wS (wanted_f 52 (by kernel_rfl) rfl) (v82 rfl ?_)
          refine wN (wanted_t 38 (by kernel_rfl) rfl) rfl rfl (v82 rfl ?_)
          iterate 2 refine wN rfl rfl rfl (v82 rfl ?_)
          iterate 3 refine wS (wanted_f 63 (by kernel_rfl) rfl) (v82 rfl ?_)
          iterate 2 refine wS (wanted_k 66 (by kernel_rfl) rfl) (v82 rfl ?_)
          refine wS (wanted_f 63 (by kernel_rfl) rfl) (v82 rfl ?_)
          refine wN rfl rfl rfl (v82 rfl ?_)
          refine we rfl ?_
          refine vc_true rfl ?_
          refine vs (wr ?_)
          refine wN rfl rfl rfl (v82 rfl ?_)
          refine we rfl (vc_ret (r_then (r_block (r_then (r_then (r_block (r_then (r_fn rfl ?_))))))))
          have hs : stepT ts i ws t = none := by rw [stepT, if_pos hok, if_pos (by rw [if_pos (show i = 0 by simp at hg38; omega)]; simp only [rootBad, hg52, Bool.true_or, Bool.or_true])]
          show some (AV.bool false) = some (AV.bool (typesOk ts))
          rw [hI.bad htt hs]
         ·
          have hk0 : 0 ≤ t.key := by have := of_decide_eq_false hg47; omega
          obtain ⟨f, hf⟩ : ∃ f, t.fields[t.key.toNat]? = some f := ⟨_, List.getElem?_eq_getElem (typeOk_key (by simpa using hg25) hk0)⟩
          have hrf : (lrows t.fx)[t.key.toNat]? = some [.str f.name, .int .i64 f.at_, .int .i64 f.bytes] := by rw [hti.fx.rows, List.getElem?_map, hf]; rfl
          have hkb : keyBytes t = f.bytes := by rw [keyBytes, hf]
          refine v82 rfl ?_
          refine wN (v := .ptr 1 0 4) (wanted_t 52 (by kernel_rfl) rfl) rfl rfl (v82 rfl ?_)
          refine wN (wanted_t 52 (by kernel_rfl) rfl) rfl rfl (v82 rfl ?_)
          refine wN (v := .ptr 1 0 5) (wanted_t 52 (by kernel_rfl) rfl) rfl rfl (v82 rfl ?_)
          refine wN (wanted_t 52 (by kernel_rfl) rfl) rfl rfl (v82 rfl ?_)
          first | refine wN (v := .iptr _ [_, _, _]) (wanted_t 52 (by kernel_rfl) rfl) rfl rfl (v82 rfl ?_) | (refine x_index (wanted_t 52 (by kernel_rfl) rfl) rfl ‹_› rfl el60 (by omega) ‹_› rfl (fun bo => ?_); refine v82 rfl ?_)
          refine wN (v := .iptr _ [_]) (wanted_t 52 (by kernel_rfl) rfl) rfl rfl (v82 rfl ?_)
          iterate 2 refine wN (wanted_t 52 (by kernel_rfl) rfl) rfl rfl (v82 rfl ?_)
          refine wN (wanted_t 38 (by kernel_rfl) rfl) rfl rfl (v82 rfl ?_)
          iterate 2 refine wN rfl rfl rfl (v82 rfl ?_)
          refine w_split 63 rfl (fun hg63 => ?_) (fun hg63 => ?_)
          ·
           refine v82 rfl ?_
           iterate 3 refine wS (wanted_f 63 (by kernel_rfl) rfl) (v82 rfl ?_)
           iterate 2 refine wS (wanted_k 66 (by kernel_rfl) rfl) (v82 rfl ?_)
           refine wS (wanted_f 63 (by kernel_rfl) rfl) (v82 rfl ?_)
           refine wN rfl rfl rfl (v82 rfl ?_)
           refine we rfl ?_
           refine vc_true rfl ?_
           refine vs (wr ?_)
           refine wN rfl rfl rfl (v82 rfl ?_)
           refine we rfl (vc_ret (r_then (r_block (r_then (r_then (r_block (r_then (r_fn rfl ?_))))))))
           have hs : stepT ts i ws t = none := by rw [stepT, if_pos hok, if_pos (by rw [if_pos (show i = 0 by simp at hg38; omega)]; simp only [rootBad, hkb, hg63, Bool.true_or, Bool.or_true])]
           show some (AV.bool false) = some (AV.bool (typesOk ts))
           rw [hI.bad htt hs]
          ·
           have hst : (if i = 0 then rootBad t else decide (wayAt ws t.parent < 0)) = false := by rw [if_pos (show i = 0 by simp at hg38; omega)]; simp only [rootBad, hg42, hg47, hg52, hkb, hg63, Bool.or_false]
           refine v82 rfl ?_
           iterate 3 refine wN (wanted_t 63 (by kernel_rfl) rfl) rfl rfl (v82 rfl ?_)
           refine w_split 66 rfl (fun hg66 => ?_) (fun hg66 => ?_)
           ·
            have := of_decide_eq_true hg66
            simp at hg38
            omega
           ·
            refine v82 rfl ?_
            iterate 2 refine wS (wanted_f 66 (by kernel_rfl) rfl) (v82 rfl ?_)
            refine wN (wanted_t 63 (by kernel_rfl) rfl) rfl rfl (v82 rfl ?_)
            refine wN rfl rfl rfl (v82 rfl ?_)
            refine we rfl ?_
            refine vc_false rfl ?_
            refine vc_skip (n_then (vs (wr ?_)))
            obtain ⟨m, hm⟩ : ∃ m, m = (wayAt ws t.parent + 1).toNat := ⟨_, rfl⟩
            have hwa : wayAt ws t.parent = fidx (intIs t.parent) (wrows ws) := rfl
            have hmI : wayAt ws t.parent + 1 = (m : Int) := by omega
            have hml : m ≤ (wrows ws).length := by omega
            iterate 2 refine wN rfl rfl rfl (v82 rfl ?_)
            refine wN (v := .int .i64 ((m : Nat) : Int)) rfl (int_eq (by rw [hmI]; exact wrap_nat (by omega))) rfl (v82 rfl ?_)
            refine wN (v := pcut 0 (wrows ws) m) rfl (pcut_run (sz := 1) Tryz.underlying35 sz3 rfl hml) rfl (v82 rfl ?_)
            iterate 2 refine wN rfl rfl rfl (v82 rfl ?_)
            refine w_opH (v := .row false 2 0 (m + 1)) (env' := _) (H2 := [.dead, _, .arr 3 1 ((wrows ws).take m ++ [[.int .i64 (i : Int)]])]) rfl (acc_cut (H := [pobj 3 1 (wrows ws), VO.arr 62 8 [[.str t.name, .int .i64 t.parent, .int .i64 t.min, .int .i64 t.size, t.fx, .int .i64 t.key, .bool t.unique, .bool t.last]]]) (L := 0) (rows := wrows ws) (news := [[.int .i64 (i : Int)]]) (x := .list .tight [[.int .i64 (i : Int)]]) (sz := 1) rfl hml el35 Tryz.underlying35 rfl zc3 by3 rfl rfl (by decide) (by decide) rfl rfl (by simp) rfl (by simp; omega)) rfl (rfl) (fun _ h => h) (v82 rfl ?_)
            refine wN rfl rfl rfl (v82 rfl ?_)
            refine we rfl (vs (wr ?_))
            refine wN rfl rfl rfl (v82 rfl ?_)
            first | refine wN rfl rfl rfl (v82 rfl ?_) | refine x_len rfl rfl ‹_› Tryz.underlying35 rfl (v82 rfl ?_)
            refine wN rfl rfl rfl (v82 rfl ?_)
            refine we rfl ?_
            refine vc_cond rfl (fun hc80 => ?_) (fun hc80 => ?_)
            ·
             refine vs (wr ?_)
             refine wN rfl rfl rfl (v82 rfl ?_)
             refine we rfl (vc_ret (r_block (r_then (r_then (r_block (r_then (r_fn rfl ?_)))))))
             have hs : stepT ts i ws t = none := by rw [stepT, if_pos hok, if_neg (by rw [hst]; simp), if_pos (by rw [← hm]; have := of_decide_eq_true hc80; omega)]
             show some (AV.bool false) = some (AV.bool (typesOk ts))
             rw [hI.bad htt hs]
            ·
             have hm5 : ¬ m + 1 > 5 := by have := of_decide_eq_false hc80; omega
             have hs : stepT ts i ws t = some (ws.take m ++ [(i : Int)]) := by rw [stepT, if_pos hok, if_neg (by rw [hst]; simp), if_neg (by rw [← hm]; exact hm5), ← hm]
             have hwr : wrows (ws.take m ++ [(i : Int)]) = (wrows ws).take m ++ [[.int .i64 (i : Int)]] := by simp [wrows, List.map_take]
             have hwl : ((wrows ws).take m).length = m := by simp [wrows]; omega
             refine vc_skip (n_block (n_then (wr ?_)))
             iterate 2 refine wN rfl rfl rfl (v82 rfl ?_)
             refine we rfl ?_
             refine hY0 ⟨(i + 1, ws.take m ++ [(i : Int)]), hI.next htt hs⟩ (by have := hI.le; simp only; omega) _ _ [2] ?_ (by decide) (fun _ h => absurd h (by omega)) ⟨.inr ⟨_, rfl, by rw [hwr]; exact pobj_snoc (by rw [← hwr]; exact wrows_val)⟩, trivial⟩
             repeat' first | exact trivial | refine ⟨.inl rfl, ?_⟩ | refine ⟨.inr rfl, ?_⟩ | refine ⟨.inr (IsL.ren1 ‹_›), ?_⟩ | refine ⟨(.inr (by rw [hwr]; exact (pval_snoc rfl).trans (by rw [hwl]))), ?_⟩ | refine ⟨(.inr ?_), ?_⟩ | fail
             all_goals first | (exact congrArg some (int_succ (by have := hx.len; omega)).symm)
      ·
       refine v82 rfl ?_
       iterate 4 refine wS (wanted_f 38 (by kernel_rfl) rfl) (v82 rfl ?_)
       iterate 3 refine wS (wanted_k 42 (by kernel_rfl) rfl) (v82 rfl ?_)
       iterate 2 refine wS (wanted_f 38 (by kernel_rfl) rfl) (v82 rfl ?_)
       iterate 3 refine wS (wanted_k 47 (by kernel_rfl) rfl) (v82 rfl ?_)
       iterate 2 refine wS (wanted_f 38 (by kernel_rfl) rfl) (v82 rfl ?_)
       iterate 8 refine wS (wanted_k 52 (by kernel_rfl) rfl) (v82 rfl ?_)
       refine wS (wanted_f 38 (by kernel_rfl) rfl) (v82 rfl ?_)
       iterate 2 refine wN rfl rfl rfl (v82 rfl ?_)
       iterate 3 refine wN (wanted_t 63 (by kernel_rfl) rfl) rfl rfl (v82 rfl ?_)
       refine w_split 66 rfl (fun hg66 => ?_) (fun hg66 => ?_)
       ·
        refine v82 rfl ?_
        iterate 2 refine wN (wanted_t 66 (by kernel_rfl) rfl) rfl rfl (v82 rfl ?_)
        refine wN (wanted_t 63 (by kernel_rfl) rfl) rfl rfl (v82 rfl ?_)
        refine wN rfl rfl rfl (v82 rfl ?_)
        refine we rfl ?_
        refine vc_cond rfl (fun hc70 => ?_) (fun hc70 => ?_)
        ·
         refine vs (wr ?_)
         refine wN rfl rfl rfl (v82 rfl ?_)
         refine we rfl (vc_ret (r_then (r_block (r_then (r_then (r_block (r_then (r_fn rfl ?_))))))))
         have hs : stepT ts i ws t = none := by rw [stepT, if_pos hok, if_pos (by rw [if_neg (by simp at hg38; omega)]; exact hc70)]
         show some (AV.bool false) = some (AV.bool (typesOk ts))
         rw [hI.bad htt hs]
        ·
         have hst : (if i = 0 then rootBad t else decide (wayAt ws t.parent < 0)) = false := by rw [if_neg (by simp at hg38; omega)]; exact hc70
         refine vc_skip (n_then (vs (wr ?_)))
         obtain ⟨m, hm⟩ : ∃ m, m = (wayAt ws t.parent + 1).toNat := ⟨_, rfl⟩
         have hwa : wayAt ws t.parent = fidx (intIs t.parent) (wrows ws) := rfl
         have hmI : wayAt ws t.parent + 1 = (m : Int) := by omega
         have hml : m ≤ (wrows ws).length := by omega
         iterate 2 refine wN rfl rfl rfl (v82 rfl ?_)
         refine wN (v := .int .i64 ((m : Nat) : Int)) rfl (int_eq (by rw [hmI]; exact wrap_nat (by omega))) rfl (v82 rfl ?_)
         refine wN (v := pcut 0 (wrows ws) m) rfl (pcut_run (sz := 1) Tryz.underlying35 sz3 rfl hml) rfl (v82 rfl ?_)
         iterate 2 refine wN rfl rfl rfl (v82 rfl ?_)
         refine w_opH (v := .row false 2 0 (m + 1)) (env' := _) (H2 := [.dead, _, .arr 3 1 ((wrows ws).take m ++ [[.int .i64 (i : Int)]])]) rfl (acc_cut (H := [pobj 3 1 (wrows ws), VO.arr 62 8 [[.str t.name, .int .i64 t.parent, .int .i64 t.min, .int .i64 t.size, t.fx, .int .i64 t.key, .bool t.unique, .bool t.last]]]) (L := 0) (rows := wrows ws) (news := [[.int .i64 (i : Int)]]) (x := .list .tight [[.int .i64 (i : Int)]]) (sz := 1) rfl hml el35 Tryz.underlying35 rfl zc3 by3 rfl rfl (by decide) (by decide) rfl rfl (by simp) rfl (by simp; omega)) rfl (rfl) (fun _ h => h) (v82 rfl ?_)
         refine wN rfl rfl rfl (v82 rfl ?_)
         refine we rfl (vs (wr ?_))
         refine wN rfl rfl rfl (v82 rfl ?_)
         first | refine wN rfl rfl rfl (v82 rfl ?_) | refine x_len rfl rfl ‹_› Tryz.underlying35 rfl (v82 rfl ?_)
         refine wN rfl rfl rfl (v82 rfl ?_)
         refine we rfl ?_
         refine vc_cond rfl (fun hc80 => ?_) (fun hc80 => ?_)
         ·
          refine vs (wr ?_)
          refine wN rfl rfl rfl (v82 rfl ?_)
          refine we rfl (vc_ret (r_block (r_then (r_then (r_block (r_then (r_fn rfl ?_)))))))
          have hs : stepT ts i ws t = none := by rw [stepT, if_pos hok, if_neg (by rw [hst]; simp), if_pos (by rw [← hm]; have := of_decide_eq_true hc80; omega)]
          show some (AV.bool false) = some (AV.bool (typesOk ts))
          rw [hI.bad htt hs]
         ·
          have hm5 : ¬ m + 1 > 5 := by have := of_decide_eq_false hc80; omega
          have hs : stepT ts i ws t = some (ws.take m ++ [(i : Int)]) := by rw [stepT, if_pos hok, if_neg (by rw [hst]; simp), if_neg (by rw [← hm]; exact hm5), ← hm]
          have hwr : wrows (ws.take m ++ [(i : Int)]) = (wrows ws).take m ++ [[.int .i64 (i : Int)]] := by simp [wrows, List.map_take]
          have hwl : ((wrows ws).take m).length = m := by simp [wrows]; omega
          refine vc_skip (n_block (n_then (wr ?_)))
          iterate 2 refine wN rfl rfl rfl (v82 rfl ?_)
          refine we rfl ?_
          refine hY0 ⟨(i + 1, ws.take m ++ [(i : Int)]), hI.next htt hs⟩ (by have := hI.le; simp only; omega) _ _ [2] ?_ (by decide) (fun _ h => absurd h (by omega)) ⟨.inr ⟨_, rfl, by rw [hwr]; exact pobj_snoc (by rw [← hwr]; exact wrows_val)⟩, trivial⟩
          repeat' first | exact trivial | refine ⟨.inl rfl, ?_⟩ | refine ⟨.inr rfl, ?_⟩ | refine ⟨.inr (IsL.ren1 ‹_›), ?_⟩ | refine ⟨(.inr (by rw [hwr]; exact (pval_snoc rfl).trans (by rw [hwl]))), ?_⟩ | refine ⟨(.inr ?_), ?_⟩ | fail
          all_goals first | (exact congrArg some (int_succ (by have := hx.len; omega)).symm)
       ·
        have := of_decide_eq_false hg66
        simp at hg38
        omega
   ·
    have hge : ¬ i < ts.length := by have := of_decide_eq_false hc18; omega
    refine vc_exit (x_then (x_then (x_same (n_then (vs (wr ?_))))))
    refine wN rfl rfl rfl (v82 rfl ?_)
    refine we rfl (vc_ret (r_fn rfl ?_))
    rw [hxl] at hc14
    show some (AV.bool true) = some (AV.bool (typesOk ts))
    have ht : typesFrom ts 0 [] ts = true := by rw [hI.eq, List.drop_of_length_le (by omega)]; rfl
    rw [typesOk, hg10, hc14, ht]
    rfl
end Go.Vi
namespace Go.Vi
open Go Go.Vi Go.Proofs
attribute [local irreducible] vops vopsD vc
theorem el23 : elemAt Tryz.prog 23 = some (none, 136, 4) := by kernel_rfl
theorem sz136 : szOf Tryz.prog 136 = some 4 := by kernel_rfl
structure PS where
 name : ByteArray
 type : Int
 field : Int
 sparse : ByteArray
def encS (s : PS) : List AV := [.str s.name, .int .i64 s.type, .int .i64 s.field, .str s.sparse]
structure SearchIs (x : AV) (ss : List PS) : Prop where
 isL : IsL x
 rows : lrows x = ss.map encS
 short : ∀ s ∈ ss, s.name.size < 9223372036854775808
 len : ss.length < 9223372036854775808
def twiceS (ss : List PS) (n : ByteArray) : Bool := ss.any fun u => seq u.name n
theorem any_nameS {ss : List PS} {n : ByteArray} : (ss.map encS).any (nameIs n) = twiceS ss n := by
 simp only [List.any_map, twiceS]
 rfl
theorem encS_len {ss : List PS} : lenOk 4 (ss.map encS) = true := List.all_eq_true.2 fun r hr => by
 obtain ⟨f, _, rfl⟩ := List.mem_map.1 hr
 rfl
def fieldBytes (t : PT) (k : Int) : Int := match t.fields[k.toNat]? with
 | some f => f.bytes
 | none => 0
def fieldBad (ts : List PT) (s : PS) : Bool := match ts[s.type.toNat]? with
 | some t => decide (s.field < 0) || decide (s.field ≥ (t.fields.length : Int)) || decide (fieldBytes t s.field > 20)
 | none => true
def searchBad (ts : List PT) (ss : List PS) (i : Nat) (s : PS) : Bool := !isName s.name || decide (s.type < 0) || decide (s.type ≥ (ts.length : Int)) || decide ((s.sparse.size : Int) > 1) || twiceS (ss.take i) s.name
def searchAt (ts : List PT) (ss : List PS) (i : Nat) : Bool := match ss[i]? with
 | some s => !(searchBad ts ss i s || fieldBad ts s)
 | none => false
def indexesOk (ts : List PT) (ss : List PS) : Bool := (List.range ss.length).all (searchAt ts ss) && decide ((ss.length : Int) ≤ 3)
theorem idx_no {ts : List PT} {ss : List PS} {i : Nat} {s : PS} (hs : ss[i]? = some s) (h : (searchBad ts ss i s || fieldBad ts s) = true) : indexesOk ts ss = false := by
 have hlt : i < ss.length := (List.getElem?_eq_some_iff.1 hs).1
 have : (List.range ss.length).all (searchAt ts ss) = false := by
  rw [List.all_eq_false]
  exact ⟨i, List.mem_range.2 hlt, by simp only [searchAt, hs, h]; simp⟩
 rw [indexesOk, this]
 rfl
theorem idx_all {ts : List PT} {ss : List PS} {i : Nat} (h : ∀ j, j < i → searchAt ts ss j = true) (hi : ss.length ≤ i) : indexesOk ts ss = decide ((ss.length : Int) ≤ 3) := by
 have : (List.range ss.length).all (searchAt ts ss) = true := List.all_eq_true.2 fun j hj => h j (by have := List.mem_range.1 hj; omega)
 rw [indexesOk, this, Bool.true_and]
structure PB where
 name : ByteArray
 kind : Int
 types : List PT
 tx : AV
 search : List PS
 sx : AV
def encB (b : PB) : List AV := [.str b.name, .int .i64 b.kind, b.tx, b.sx]
structure BaseIs (b : PB) : Prop where
 short : b.name.size < 9223372036854775808
 types : TypesIs b.tx b.types
 search : SearchIs b.sx b.search
def baseOk (b : PB) : Bool := isName b.name && decide (b.kind ≥ 1) && decide (b.kind ≤ 4) && typesOk b.types && indexesOk b.types b.search
set_option maxHeartbeats 4000000 in
theorem zSearchEq (G : Glob) (s u : PS) (bo : Bool) : Vi.Fn Tryz.prog G 110 [.agg (encS s), .iptr bo (encS u)] (.bool (seq s.name u.name)) := by
 refine fn_body (fun _ => .iso) Tryz.func110 rfl ?_
 refine vc_norm (env' := [_, _, _, _, _, _, _, _, _]) (H' := []) rfl rfl ?_
 refine vs (wr ?_)
 refine w_opH (v := .ptr 0 0 0) (env' := _) (H2 := [.arr 136 4 [[_, _, _, _]]]) rfl rfl rfl rfl (fun _ h => h) (v9 rfl ?_)
 refine wN rfl rfl rfl (v9 rfl ?_)
 refine we rfl (vs (wr ?_))
 refine wN (v := .ptr 0 0 0) rfl rfl rfl (v9 rfl ?_)
 refine wN rfl rfl rfl (v9 rfl ?_)
 refine wN (v := .iptr _ [_, _, _, _]) rfl rfl rfl (v9 rfl ?_)
 iterate 3 refine wN rfl rfl rfl (v9 rfl ?_)
 refine we rfl (vc_ret (r_fn rfl ?_))
 rfl
set_option maxHeartbeats 4000000 in
theorem zIdxS (G : Glob) (x : AV) (g : Nat) (caps : List AV) (p : List AV → Bool) (hL : IsL x) (hlen : (lrows x).length < 9223372036854775808) (hk : ∀ r ∈ lrows x, r.length = 4) (hcl : mapL (lend0 []) caps = some caps) (he : enterOk Tryz.prog g = true) (hp : ∀ r ∈ lrows x, lend [] (.agg r) = some (.agg r) ∧ Vi.Fn Tryz.prog G g (.agg r :: caps) (.bool (p r))) : Vi.Fn Tryz.prog G 135 [x, .clo g caps] (.int .i64 (fidx p (lrows x))) := by
 refine fn_body (fun _ => .iso) Tryz.func135 rfl ?_
 refine vc_norm (env' := [_, _, _, _, _, _, _, _, _, _, _, _, _, _, _, _, _, _, _]) (H' := []) rfl rfl ?_
 refine vs (wr ?_)
 refine wN rfl rfl rfl (v19 rfl ?_)
 refine we rfl (vs (vs (wr ?_)))
 refine wN rfl rfl rfl (v19 rfl ?_)
 first | refine wN rfl rfl rfl (v19 rfl ?_) | refine x_len rfl rfl ‹_› Tryz.underlying23 rfl (v19 rfl ?_)
 refine wN rfl rfl rfl (v19 rfl ?_)
 refine we rfl (vc_block ?_)
 refine vc_loopU (α := { i : Nat // (∀ j r, j < i → (lrows x)[j]? = some r → p r = false) ∧ i ≤ (lrows x).length }) (fun i => (rnone 4 ++ ([some .undef, some .undef, none, none, some (.int .i64 (i.1 : Nat))] ++ (rundef 10)))) (fun i => (lrows x).length - i.1) ⟨0, fun j r h => by omega, by omega⟩ (by repeat' first | exact trivial | refine ⟨.inr rfl, ?_⟩ | refine ⟨.inl rfl, ?_⟩ | fail) (fun _ => ⟨Nat.zero_le _, (by repeat' first | exact trivial | exact (cellsB_lent hcl) | exact IsL.belowV ‹_› | refine ⟨?_, ?_⟩ | exact IsL.below ‹_› | (simp [valB, leafB, cellsB, IsL.below, *]; done) | (simp [valB, leafB, cellsB, IsL.below, *]; omega) | fail), (by repeat' first | exact trivial | exact IsL.below (by assumption) | refine ⟨?_, ?_⟩ | (simp [leafB]; done))⟩) ?_
 rintro ⟨i, hn, hi⟩ Y0 hY0
 refine vc_norm (env' := [_, _, _, _, _, _, _, _, _, _, _, _, _, _, _, _, _, _, _]) (H' := []) rfl rfl ?_
 refine vs (wr ?_)
 refine wN rfl rfl rfl (v19 rfl ?_)
 refine we rfl (vs ?_)
 refine vc_cond rfl (fun hc9 => ?_) (fun hc9 => ?_)
 ·
  have hlt : i < (lrows x).length := by simpa using hc9
  obtain ⟨r, hri⟩ : ∃ r, (lrows x)[i]? = some r := ⟨_, List.getElem?_eq_getElem hlt⟩
  obtain ⟨hl, hF⟩ := hp r (List.mem_of_getElem? hri)
  have hrk := hk r (List.mem_of_getElem? hri)
  obtain ⟨c0, c1, c2, c3, rfl⟩ : ∃ c0 c1 c2 c3, r = [c0, c1, c2, c3] := by
   match r, hrk with
   | [c0, c1, c2, c3], _ => exact ⟨c0, c1, c2, c3, rfl⟩
  refine vc_skip (n_then (vs (vc_block (vs (wr ?_)))))
  iterate 2 refine wN rfl rfl rfl (v19 rfl ?_)
  refine we rfl (vs (wr ?_))
  iterate 3 refine wN rfl rfl rfl (v19 rfl ?_)
  first | refine wN (v := .iptr _ [_, _, _, _]) rfl rfl rfl (v19 rfl ?_) | (refine x_index rfl rfl ‹_› rfl el23 (by omega) ‹_› rfl (fun bo => ?_); refine v19 rfl ?_)
  refine wN (v := .agg [_, _, _, _]) rfl rfl rfl (v19 rfl ?_)
  refine w_callI (env' := _) rfl rfl rfl he rfl (mapL_app hl (lends_of0 hcl)) (hF) rfl (v19 rfl ?_)
  refine we rfl ?_
  refine vc_cond rfl (fun hc16 => ?_) (fun hc16 => ?_)
  ·
   refine vs (wr ?_)
   iterate 2 refine wN rfl rfl rfl (v19 rfl ?_)
   refine we rfl (vc_ret (r_block (r_then (r_then (r_block (r_then (r_fn rfl ?_)))))))
   show some (AV.int .i64 (i : Int)) = _
   rw [fidx_at hn hri hc16]
  ·
   refine vc_skip (n_block (n_then (wr ?_)))
   iterate 2 refine wN rfl rfl rfl (v19 rfl ?_)
   refine we rfl ?_
   refine hY0 ⟨i + 1, upto_succ hn hri (by simpa using hc16), hlt⟩ (by simp only; omega) _ _ _ ?_ rfl
   repeat' first | exact trivial | refine ⟨.inr rfl, ?_⟩ | refine ⟨.inl rfl, ?_⟩ | refine ⟨.inl ?_, ?_⟩ | fail
   all_goals first | exact (int_succ (by omega)).symm
 ·
  have hge : ¬ i < (lrows x).length := by simpa using hc9
  refine vc_exit (x_then (x_then (x_same (n_then (vs (wr ?_))))))
  refine wN rfl rfl rfl (v19 rfl ?_)
  refine we rfl (vc_ret (r_fn rfl ?_))
  show some (AV.int .i64 (-1)) = _
  rw [fidx_no hn (by omega)]
set_option maxHeartbeats 4000000 in
theorem zHasS (G : Glob) (x : AV) (g : Nat) (caps : List AV) (p : List AV → Bool) (hL : IsL x) (hlen : (lrows x).length < 9223372036854775808) (hk : ∀ r ∈ lrows x, r.length = 4) (hcl : mapL (lend0 []) caps = some caps) (he : enterOk Tryz.prog g = true) (hp : ∀ r ∈ lrows x, lend [] (.agg r) = some (.agg r) ∧ Vi.Fn Tryz.prog G g (.agg r :: caps) (.bool (p r))) : Vi.Fn Tryz.prog G 109 [x, .clo g caps] (.bool ((lrows x).any p)) := by
 have hclo : lend [] (.clo g caps) = some (.clo g caps) := lend_clo hcl
 refine fn_body (fun _ => .iso) Tryz.func109 rfl ?_
 refine vc_norm (env' := [_, _, _, _, _, _, _, _, _]) (H' := []) rfl rfl ?_
 refine vs (wr ?_)
 refine wN rfl rfl rfl (v9 rfl ?_)
 refine we rfl (vs (wr ?_))
 iterate 2 refine wN rfl rfl rfl (v9 rfl ?_)
 refine w_callI (env' := _) rfl rfl rfl (by kernel_rfl) rfl (mapL_cons hL.lend (mapL_cons hclo rfl)) (zIdxS G x g caps p hL hlen hk hcl he hp) rfl (v9 rfl ?_)
 iterate 2 refine wN rfl rfl rfl (v9 rfl ?_)
 refine we rfl (vc_ret (r_fn rfl ?_))
 show some (AV.bool (decide (fidx p (lrows x) ≥ 0))) = _
 rw [fidx_ge]
set_option maxHeartbeats 4000000 in
theorem zAreIndexes (G : Glob) (x z : AV) (ss : List PS) (ts : List PT) (hx : SearchIs x ss) (hz : TypesIs z ts) : Vi.Fn Tryz.prog G 78 [x, z] (.bool (indexesOk ts ss)) := by
 have hL := hx.isL
 have hLz := hz.isL
 have hxl : (lrows x).length = ss.length := by rw [hx.rows]; simp
 have hzl : (lrows z).length = ts.length := by rw [hz.rows]; simp
 refine fn_body (fun _ => .iso) Tryz.func78 rfl ?_
 refine vc_norm (env' := (_ :: _ :: _ :: _ :: _ :: _ :: _ :: _ :: _ :: _ :: _ :: _ :: _ :: _ :: _ :: _ :: _ :: _ :: _ :: _ :: _ :: _ :: _ :: _ :: _ :: _ :: _ :: _ :: _ :: _ :: _ :: _ :: _ :: _ :: _ :: _ :: _ :: _ :: _ :: _ :: _ :: _ :: _ :: _ :: _ :: _ :: _ :: _ :: _ :: _ :: _ :: _ :: _ :: _ :: _ :: _ :: _ :: _ :: _ :: _ :: _ :: _ :: _ :: _ :: _ :: _ :: _ :: _ :: _ :: _ :: _ :: _ :: _ :: [])) (H' := []) rfl rfl ?_
 refine vs (wr ?_)
 refine wN rfl rfl rfl (v73 rfl ?_)
 refine we rfl (vs (vs (wr ?_)))
 refine wN rfl rfl rfl (v73 rfl ?_)
 first | refine wN rfl rfl rfl (v73 rfl ?_) | refine x_len rfl rfl ‹_› Tryz.underlying23 rfl (v73 rfl ?_)
 refine wN rfl rfl rfl (v73 rfl ?_)
 refine we rfl (vc_block ?_)
 refine vc_loopU (α := { i : Nat // (∀ j, j < i → searchAt ts ss j = true) ∧ i ≤ ss.length }) (fun i => (rnone 4 ++ (rundef 4 ++ ([none, none, some (.int .i64 (i.1 : Nat))] ++ (rundef 59 ++ ([none, none, none])))))) (fun i => ss.length - i.1) ⟨0, fun j h => by omega, by omega⟩ (by repeat' first | exact trivial | refine ⟨.inr rfl, ?_⟩ | refine ⟨.inl rfl, ?_⟩ | fail) (fun _ => ⟨Nat.zero_le _, (by repeat' first | exact trivial | exact IsL.belowV ‹_› | refine ⟨?_, ?_⟩ | exact IsL.below ‹_› | (simp [valB, leafB, cellsB, IsL.below, *]; done) | (simp [valB, leafB, cellsB, IsL.below, *]; omega) | fail), (by repeat' first | exact trivial | exact IsL.below (by assumption) | refine ⟨?_, ?_⟩ | (simp [leafB]; done))⟩) ?_
 rintro ⟨i, hn, hi⟩ Y0 hY0
 refine vc_norm (env' := (_ :: _ :: _ :: _ :: _ :: _ :: _ :: _ :: _ :: _ :: (.int .i64 (i : Int)) :: _ :: _ :: _ :: _ :: _ :: _ :: _ :: _ :: _ :: _ :: _ :: _ :: _ :: _ :: _ :: _ :: _ :: _ :: _ :: _ :: _ :: _ :: _ :: _ :: _ :: _ :: _ :: _ :: _ :: _ :: _ :: _ :: _ :: _ :: _ :: _ :: _ :: _ :: _ :: _ :: _ :: _ :: _ :: _ :: _ :: _ :: _ :: _ :: _ :: _ :: _ :: _ :: _ :: _ :: _ :: _ :: _ :: _ :: _ :: _ :: _ :: _ :: [])) (H' := []) rfl rfl ?_
 refine vs (wr ?_)
 refine wN rfl rfl rfl (v73 rfl ?_)
 refine we rfl (vs ?_)
 refine vc_cond rfl (fun hc11 => ?_) (fun hc11 => ?_)
 ·
  have hlt : i < ss.length := by have := of_decide_eq_true hc11; omega
  obtain ⟨s, hss⟩ : ∃ s, ss[i]? = some s := ⟨_, List.getElem?_eq_getElem hlt⟩
  have hri : (lrows x)[i]? = some [.str s.name, .int .i64 s.type, .int .i64 s.field, .str s.sparse] := by rw [hx.rows, List.getElem?_map, hss]; rfl
  have hsn := hx.short s (List.mem_of_getElem? hss)
  obtain ⟨y, hy, hyL, hyr⟩ := sl_take (P := Tryz.prog) (H := [VO.arr 136 4 [[.str s.name, .int .i64 s.type, .int .i64 s.field, .str s.sparse]]]) (n := i) hL Tryz.underlying23 sz136 (by rw [hx.rows]; exact encS_len) (by omega)
  have hyr2 : lrows y = (ss.take i).map encS := by rw [hyr, hx.rows, List.map_take]
  have hcont := zHasS G y 110 [.iptr true [.str s.name, .int .i64 s.type, .int .i64 s.field, .str s.sparse]] (nameIs s.name) hyL (by rw [hyr]; simp; have := hx.len; omega) (fun r hr => by rw [hyr2] at hr; obtain ⟨g, _, rfl⟩ := List.mem_map.1 hr; rfl) rfl (by kernel_rfl) (fun r hr => by rw [hyr2] at hr; obtain ⟨g, _, rfl⟩ := List.mem_map.1 hr; exact ⟨rfl, zSearchEq G g s true⟩)
  rw [hyr2, any_nameS] at hcont
  refine vc_skip (n_then (vs (vc_block (vs (wr ?_)))))
  refine wN rfl rfl rfl (v73 rfl ?_)
  first | refine wN (v := .iptr _ [_, _, _, _]) rfl rfl rfl (v73 rfl ?_) | (refine x_index rfl rfl ‹_› rfl el23 (by omega) ‹_› rfl (fun bo => ?_); refine v73 rfl ?_)
  refine wN (v := .agg [_, _, _, _]) rfl rfl rfl (v73 rfl ?_)
  refine w_opH (v := .ptr 0 0 0) (env' := _) (H2 := [.arr 136 4 [[_, _, _, _]]]) rfl rfl rfl rfl (fun _ h => h) (v73 rfl ?_)
  refine wN rfl rfl rfl (v73 rfl ?_)
  refine w_op0N (H2 := [.arr 136 4 [[_, _, _, _]]]) rfl rfl rfl (fun _ h => h) ?_
  refine we rfl (vs (vs (wr ?_)))
  refine wN (v := .ptr 0 0 0) rfl rfl rfl (v73 rfl ?_)
  refine wN rfl rfl rfl (v73 rfl ?_)
  refine w_callI (env' := _) rfl rfl rfl (by kernel_rfl) rfl (by repeat' first | exact IsL.lend ‹_› | exact IsL.lend0 ‹_› | refine mapL_cons ?_ ?_ | refine lend_agg ?_ | rfl) (zName G s.name hsn) rfl (v73 rfl ?_)
  iterate 2 refine wN rfl rfl rfl (v73 rfl ?_)
  refine w_split 19 rfl (fun hg19 => ?_) (fun hg19 => ?_)
  ·
   refine v73 rfl ?_
   iterate 3 refine wS (wanted_f 19 (by kernel_rfl) rfl) (v73 rfl ?_)
   iterate 2 refine wN rfl rfl rfl (v73 rfl ?_)
   iterate 5 refine wS (wanted_f 24 (by kernel_rfl) rfl) (v73 rfl ?_)
   iterate 2 refine wN rfl rfl rfl (v73 rfl ?_)
   iterate 4 refine wS (wanted_f 31 (by kernel_rfl) rfl) (v73 rfl ?_)
   iterate 2 refine wN rfl rfl rfl (v73 rfl ?_)
   iterate 5 refine wS (wanted_f 37 (by kernel_rfl) rfl) (v73 rfl ?_)
   refine wN rfl rfl rfl (v73 rfl ?_)
   refine we rfl ?_
   refine vc_true rfl ?_
   refine vs (wr ?_)
   refine wN rfl rfl rfl (v73 rfl ?_)
   refine we rfl (vc_ret (r_then (r_block (r_then (r_then (r_block (r_then (r_fn rfl ?_))))))))
   have hb : (searchBad ts ss i s || fieldBad ts s) = true := by simp only [searchBad, hg19, Bool.true_or, Bool.or_true]
   show some (AV.bool false) = some (AV.bool (indexesOk ts ss))
   rw [idx_no hss hb]
  ·
   refine v73 rfl ?_
   refine wN (v := .ptr 0 0 1) (wanted_t 19 (by kernel_rfl) rfl) rfl rfl (v73 rfl ?_)
   iterate 2 refine wN (wanted_t 19 (by kernel_rfl) rfl) rfl rfl (v73 rfl ?_)
   iterate 2 refine wN rfl rfl rfl (v73 rfl ?_)
   refine w_split 24 rfl (fun hg24 => ?_) (fun hg24 => ?_)
   ·
    refine v73 rfl ?_
    iterate 5 refine wS (wanted_f 24 (by kernel_rfl) rfl) (v73 rfl ?_)
    iterate 2 refine wN rfl rfl rfl (v73 rfl ?_)
    iterate 4 refine wS (wanted_f 31 (by kernel_rfl) rfl) (v73 rfl ?_)
    iterate 2 refine wN rfl rfl rfl (v73 rfl ?_)
    iterate 5 refine wS (wanted_f 37 (by kernel_rfl) rfl) (v73 rfl ?_)
    refine wN rfl rfl rfl (v73 rfl ?_)
    refine we rfl ?_
    refine vc_true rfl ?_
    refine vs (wr ?_)
    refine wN rfl rfl rfl (v73 rfl ?_)
    refine we rfl (vc_ret (r_then (r_block (r_then (r_then (r_block (r_then (r_fn rfl ?_))))))))
    have hb : (searchBad ts ss i s || fieldBad ts s) = true := by simp only [searchBad, hg24, Bool.true_or, Bool.or_true]
    show some (AV.bool false) = some (AV.bool (indexesOk ts ss))
    rw [idx_no hss hb]
   ·
    refine v73 rfl ?_
    refine wN (v := .ptr 0 0 1) (wanted_t 24 (by kernel_rfl) rfl) rfl rfl (v73 rfl ?_)
    iterate 2 refine wN (wanted_t 24 (by kernel_rfl) rfl) rfl rfl (v73 rfl ?_)
    first | refine wN (wanted_t 24 (by kernel_rfl) rfl) rfl rfl (v73 rfl ?_) | refine x_len (wanted_t 24 (by kernel_rfl) rfl) rfl ‹_› Tryz.underlying22 rfl (v73 rfl ?_)
    refine wN (wanted_t 24 (by kernel_rfl) rfl) rfl rfl (v73 rfl ?_)
    iterate 2 refine wN rfl rfl rfl (v73 rfl ?_)
    refine w_split 31 rfl (fun hg31 => ?_) (fun hg31 => ?_)
    ·
     rw [hzl] at hg31
     refine v73 rfl ?_
     iterate 4 refine wS (wanted_f 31 (by kernel_rfl) rfl) (v73 rfl ?_)
     iterate 2 refine wN rfl rfl rfl (v73 rfl ?_)
     iterate 5 refine wS (wanted_f 37 (by kernel_rfl) rfl) (v73 rfl ?_)
     refine wN rfl rfl rfl (v73 rfl ?_)
     refine we rfl ?_
     refine vc_true rfl ?_
     refine vs (wr ?_)
     refine wN rfl rfl rfl (v73 rfl ?_)
     refine we rfl (vc_ret (r_then (r_block (r_then (r_then (r_block (r_then (r_fn rfl ?_))))))))
     have hb : (searchBad ts ss i s || fieldBad ts s) = true := by simp only [searchBad, hg31, Bool.true_or, Bool.or_true]
     show some (AV.bool false) = some (AV.bool (indexesOk ts ss))
     rw [idx_no hss hb]
    ·
     rw [hzl] at hg31
     refine v73 rfl ?_
     refine wN (v := .ptr 0 0 3) (wanted_t 31 (by kernel_rfl) rfl) rfl rfl (v73 rfl ?_)
     iterate 3 refine wN (wanted_t 31 (by kernel_rfl) rfl) rfl rfl (v73 rfl ?_)
     iterate 2 refine wN rfl rfl rfl (v73 rfl ?_)
     refine w_split 37 rfl (fun hg37 => ?_) (fun hg37 => ?_)
     ·
      refine v73 rfl ?_
      iterate 5 refine wS (wanted_f 37 (by kernel_rfl) rfl) (v73 rfl ?_)
      refine wN rfl rfl rfl (v73 rfl ?_)
      refine we rfl ?_
      refine vc_true rfl ?_
      refine vs (wr ?_)
      refine wN rfl rfl rfl (v73 rfl ?_)
      refine we rfl (vc_ret (r_then (r_block (r_then (r_then (r_block (r_then (r_fn rfl ?_))))))))
      have hb : (searchBad ts ss i s || fieldBad ts s) = true := by simp only [searchBad, hg37, Bool.true_or, Bool.or_true]
      show some (AV.bool false) = some (AV.bool (indexesOk ts ss))
      rw [idx_no hss hb]
     ·
      refine v73 rfl ?_
      iterate 2 refine wN (wanted_t 37 (by kernel_rfl) rfl) rfl rfl (v73 rfl ?_)
      refine wN (v := y) (wanted_t 37 (by kernel_rfl) rfl) (hy) rfl (v73 rfl ?_)
      refine wN (wanted_t 37 (by kernel_rfl) rfl) rfl rfl (v73 rfl ?_)
      refine w_callI (env' := _) (wanted_t 37 (by kernel_rfl) rfl) rfl rfl (by kernel_rfl) rfl (by repeat' first | exact IsL.lend ‹_› | exact IsL.lend0 ‹_› | refine mapL_cons ?_ ?_ | refine lend_agg ?_ | rfl) (hcont) rfl (v73 rfl ?_)
      refine wN rfl rfl rfl (v73 rfl ?_)
      refine we rfl ?_
      refine vc_cond rfl (fun hc43 => ?_) (fun hc43 => ?_)
      ·
       refine vs (wr ?_)
       refine wN rfl rfl rfl (v73 rfl ?_)
       refine we rfl (vc_ret (r_then (r_block (r_then (r_then (r_block (r_then (r_fn rfl ?_))))))))
       have hb : (searchBad ts ss i s || fieldBad ts s) = true := by simp only [searchBad, hc43, Bool.true_or, Bool.or_true]
       show some (AV.bool false) = some (AV.bool (indexesOk ts ss))
       rw [idx_no hss hb]
      ·
       have hsb : searchBad ts ss i s = false := by simp only [searchBad, hg19, hg24, hg31, hg37, hc43, Bool.or_false]
       have h0 : 0 ≤ s.type := by have := of_decide_eq_false hg24; omega
       obtain ⟨t, htt⟩ : ∃ t, ts[s.type.toNat]? = some t := ⟨_, List.getElem?_eq_getElem (by have := of_decide_eq_false hg31; omega)⟩
       have hrt : (lrows z)[s.type.toNat]? = some [.str t.name, .int .i64 t.parent, .int .i64 t.min, .int .i64 t.size, t.fx, .int .i64 t.key, .bool t.unique, .bool t.last] := by rw [hz.rows, List.getElem?_map, htt]; rfl
       have hti := hz.each t (List.mem_of_getElem? htt)
       have hfL := hti.fx.isL
       have hfl : (lrows t.fx).length = t.fields.length := by rw [hti.fx.rows]; simp
       refine vc_skip (n_then (vs (wr ?_)))
       refine wN rfl rfl rfl (v73 rfl ?_)
       refine wN (v := .ptr 0 0 1) rfl rfl rfl (v73 rfl ?_)
       refine wN rfl rfl rfl (v73 rfl ?_)
       first | refine wN (v := .iptr _ [_, _, _, _, _, _, _, _]) rfl rfl rfl (v73 rfl ?_) | (refine x_index rfl rfl ‹_› rfl el22 (by omega) ‹_› rfl (fun bo => ?_); refine v73 rfl ?_)
       refine wN (v := .iptr _ [_, _, _, _]) rfl rfl rfl (v73 rfl ?_)
       iterate 2 refine wN rfl rfl rfl (v73 rfl ?_)
       refine we rfl (vs (wr ?_))
       refine wN (v := .ptr 0 0 2) rfl rfl rfl (v73 rfl ?_)
       iterate 3 refine wN rfl rfl rfl (v73 rfl ?_)
       refine w_split 53 rfl (fun hg53 => ?_) (fun hg53 => ?_)
       ·
        refine v73 rfl ?_
        iterate 5 refine wS (wanted_f 53 (by kernel_rfl) rfl) (v73 rfl ?_)
        iterate 2 refine wN rfl rfl rfl (v73 rfl ?_)
        iterate 7 refine wS (wanted_f 60 (by kernel_rfl) rfl) (v73 rfl ?_)
        refine wN rfl rfl rfl (v73 rfl ?_)
        refine we rfl ?_
        refine vc_true rfl ?_
        refine vs (wr ?_)
        refine wN rfl rfl rfl (v73 rfl ?_)
        refine we rfl (vc_ret (r_block (r_then (r_then (r_block (r_then (r_fn rfl ?_)))))))
        have hb : (searchBad ts ss i s || fieldBad ts s) = true := by rw [hsb]; simp only [fieldBad, htt, hg53, Bool.true_or, Bool.or_true]
        show some (AV.bool false) = some (AV.bool (indexesOk ts ss))
        rw [idx_no hss hb]
       ·
        refine v73 rfl ?_
        refine wN (v := .ptr 0 0 2) (wanted_t 53 (by kernel_rfl) rfl) rfl rfl (v73 rfl ?_)
        iterate 2 refine wN (wanted_t 53 (by kernel_rfl) rfl) rfl rfl (v73 rfl ?_)
        first | refine wN (wanted_t 53 (by kernel_rfl) rfl) rfl rfl (v73 rfl ?_) | refine x_len (wanted_t 53 (by kernel_rfl) rfl) rfl ‹_› Tryz.underlying60 rfl (v73 rfl ?_)
        refine wN (wanted_t 53 (by kernel_rfl) rfl) rfl rfl (v73 rfl ?_)
        iterate 2 refine wN rfl rfl rfl (v73 rfl ?_)
        refine w_split 60 rfl (fun hg60 => ?_) (fun hg60 => ?_)
        ·
         rw [hfl] at hg60
         refine v73 rfl ?_
         iterate 7 refine wS (wanted_f 60 (by kernel_rfl) rfl) (v73 rfl ?_)
         refine wN rfl rfl rfl (v73 rfl ?_)
         refine we rfl ?_
         refine vc_true rfl ?_
         refine vs (wr ?_)
         refine wN rfl rfl rfl (v73 rfl ?_)
         refine we rfl (vc_ret (r_block (r_then (r_then (r_block (r_then (r_fn rfl ?_)))))))
         have hb : (searchBad ts ss i s || fieldBad ts s) = true := by rw [hsb]; simp only [fieldBad, htt, hg60, Bool.true_or, Bool.or_true]
         show some (AV.bool false) = some (AV.bool (indexesOk ts ss))
         rw [idx_no hss hb]
        ·
         rw [hfl] at hg60
         have hf0 : 0 ≤ s.field := by have := of_decide_eq_false hg53; omega
         obtain ⟨f, hf⟩ : ∃ f, t.fields[s.field.toNat]? = some f := ⟨_, List.getElem?_eq_getElem (by have := of_decide_eq_false hg60; omega)⟩
         have hrf : (lrows t.fx)[s.field.toNat]? = some [.str f.name, .int .i64 f.at_, .int .i64 f.bytes] := by rw [hti.fx.rows, List.getElem?_map, hf]; rfl
         have hfbb : fieldBytes t s.field = f.bytes := by rw [fieldBytes, hf]
         refine v73 rfl ?_
         refine wN (wanted_t 60 (by kernel_rfl) rfl) rfl rfl (v73 rfl ?_)
         refine wN (v := .ptr 0 0 2) (wanted_t 60 (by kernel_rfl) rfl) rfl rfl (v73 rfl ?_)
         refine wN (wanted_t 60 (by kernel_rfl) rfl) rfl rfl (v73 rfl ?_)
         first | refine wN (v := .iptr _ [_, _, _]) (wanted_t 60 (by kernel_rfl) rfl) rfl rfl (v73 rfl ?_) | (refine x_index (wanted_t 60 (by kernel_rfl) rfl) rfl ‹_› rfl el60 (by omega) ‹_› rfl (fun bo => ?_); refine v73 rfl ?_)
         refine wN (v := .iptr _ [_]) (wanted_t 60 (by kernel_rfl) rfl) rfl rfl (v73 rfl ?_)
         iterate 2 refine wN (wanted_t 60 (by kernel_rfl) rfl) rfl rfl (v73 rfl ?_)
         refine wN rfl rfl rfl (v73 rfl ?_)
         refine we rfl ?_
         refine vc_cond rfl (fun hc68 => ?_) (fun hc68 => ?_)
         ·
          refine vs (wr ?_)
          refine wN rfl rfl rfl (v73 rfl ?_)
          refine we rfl (vc_ret (r_block (r_then (r_then (r_block (r_then (r_fn rfl ?_)))))))
          have hb : (searchBad ts ss i s || fieldBad ts s) = true := by rw [hsb]; simp only [fieldBad, htt, hfbb, hc68, Bool.true_or, Bool.or_true]
          show some (AV.bool false) = some (AV.bool (indexesOk ts ss))
          rw [idx_no hss hb]
         ·
          refine vc_skip (n_block (n_then (wr ?_)))
          iterate 2 refine wN rfl rfl rfl (v73 rfl ?_)
          refine we rfl ?_
          refine hY0 ⟨i + 1, upto_all hn (by simp only [searchAt, hss, hsb, fieldBad, htt, hg53, hg60, hfbb, hc68, Bool.or_false]; rfl), hlt⟩ (by simp only; omega) _ _ _ ?_ rfl
          repeat' first | exact trivial | refine ⟨.inr rfl, ?_⟩ | refine ⟨.inl rfl, ?_⟩ | refine ⟨.inl ?_, ?_⟩ | fail
          all_goals first | (exact (int_succ (by have := hx.len; omega)).symm)
 ·
  have hge : ¬ i < ss.length := by have := of_decide_eq_false hc11; omega
  refine vc_exit (x_then (x_then (x_same (n_then (vs (wr ?_))))))
  refine wN rfl rfl rfl (v73 rfl ?_)
  first | refine wN rfl rfl rfl (v73 rfl ?_) | refine x_len rfl rfl ‹_› Tryz.underlying23 rfl (v73 rfl ?_)
  iterate 2 refine wN rfl rfl rfl (v73 rfl ?_)
  refine we rfl (vc_ret (r_fn rfl ?_))
  show some (AV.bool (decide (((lrows x).length : Int) ≤ 3))) = some (AV.bool (indexesOk ts ss))
  rw [idx_all hn (by omega), hxl]
set_option maxHeartbeats 4000000 in
theorem zValid (G : Glob) (b : PB) (hb : BaseIs b) : Vi.Fn Tryz.prog G 43 [.agg (encB b)] (.bool (baseOk b)) := by
 have hL := hb.types.isL
 have hLs := hb.search.isL
 refine fn_body (fun _ => .iso) Tryz.func43 rfl ?_
 refine vc_norm (env' := (_ :: _ :: _ :: _ :: _ :: _ :: _ :: _ :: _ :: _ :: _ :: _ :: _ :: _ :: _ :: _ :: _ :: _ :: _ :: _ :: _ :: _ :: _ :: _ :: _ :: _ :: _ :: _ :: [])) (H' := []) rfl rfl ?_
 refine vs (wr ?_)
 refine w_opH (v := .ptr 0 0 0) (env' := _) (H2 := [.arr 25 4 [[_, _, _, _]]]) rfl rfl rfl rfl (fun _ h => h) (v28 rfl ?_)
 refine wN rfl rfl rfl (v28 rfl ?_)
 refine we rfl (vs (wr ?_))
 refine wN (v := .ptr 0 0 0) rfl rfl rfl (v28 rfl ?_)
 refine wN rfl rfl rfl (v28 rfl ?_)
 refine w_callI (env' := _) rfl rfl rfl (by kernel_rfl) rfl (by repeat' first | exact IsL.lend ‹_› | exact IsL.lend0 ‹_› | refine mapL_cons ?_ ?_ | refine lend_agg ?_ | rfl) (zName G b.name hb.short) rfl (v28 rfl ?_)
 refine wN rfl rfl rfl (v28 rfl ?_)
 refine w_split 6 rfl (fun hg6 => ?_) (fun hg6 => ?_)
 ·
  refine v28 rfl ?_
  refine wN (v := .ptr 0 0 1) (wanted_t 6 (by kernel_rfl) rfl) rfl rfl (v28 rfl ?_)
  iterate 2 refine wN (wanted_t 6 (by kernel_rfl) rfl) rfl rfl (v28 rfl ?_)
  iterate 2 refine wN rfl rfl rfl (v28 rfl ?_)
  refine w_split 11 rfl (fun hg11 => ?_) (fun hg11 => ?_)
  ·
   refine v28 rfl ?_
   refine wN (v := .ptr 0 0 1) (wanted_t 11 (by kernel_rfl) rfl) rfl rfl (v28 rfl ?_)
   iterate 2 refine wN (wanted_t 11 (by kernel_rfl) rfl) rfl rfl (v28 rfl ?_)
   iterate 2 refine wN rfl rfl rfl (v28 rfl ?_)
   refine w_split 16 rfl (fun hg16 => ?_) (fun hg16 => ?_)
   ·
    refine v28 rfl ?_
    refine wN (v := .ptr 0 0 2) (wanted_t 16 (by kernel_rfl) rfl) rfl rfl (v28 rfl ?_)
    refine wN (wanted_t 16 (by kernel_rfl) rfl) rfl rfl (v28 rfl ?_)
    refine w_callI (env' := _) (wanted_t 16 (by kernel_rfl) rfl) rfl rfl (by kernel_rfl) rfl (by repeat' first | exact IsL.lend ‹_› | exact IsL.lend0 ‹_› | refine mapL_cons ?_ ?_ | refine lend_agg ?_ | rfl) (zAreTypes G b.tx b.types hb.types) rfl (v28 rfl ?_)
    iterate 2 refine wN rfl rfl rfl (v28 rfl ?_)
    refine w_split 21 rfl (fun hg21 => ?_) (fun hg21 => ?_)
    ·
     refine v28 rfl ?_
     refine wN (v := .ptr 0 0 3) (wanted_t 21 (by kernel_rfl) rfl) rfl rfl (v28 rfl ?_)
     refine wN (wanted_t 21 (by kernel_rfl) rfl) rfl rfl (v28 rfl ?_)
     refine wN (v := .ptr 0 0 2) (wanted_t 21 (by kernel_rfl) rfl) rfl rfl (v28 rfl ?_)
     refine wN (wanted_t 21 (by kernel_rfl) rfl) rfl rfl (v28 rfl ?_)
     refine w_callI (env' := _) (wanted_t 21 (by kernel_rfl) rfl) rfl rfl (by kernel_rfl) rfl (by repeat' first | exact IsL.lend ‹_› | exact IsL.lend0 ‹_› | refine mapL_cons ?_ ?_ | refine lend_agg ?_ | rfl) (zAreIndexes G b.sx b.tx b.search b.types hb.search hb.types) rfl (v28 rfl ?_)
     iterate 2 refine wN rfl rfl rfl (v28 rfl ?_)
     refine we rfl (vc_ret (r_fn rfl ?_))
     show some (AV.bool (indexesOk b.types b.search)) = some (AV.bool (baseOk b))
     have he : baseOk b = indexesOk b.types b.search := by simp only [baseOk, hg6, hg11, hg16, hg21, Bool.true_and]
     rw [he]
    ·
     refine v28 rfl ?_
     iterate 5 refine wS (wanted_f 21 (by kernel_rfl) rfl) (v28 rfl ?_)
     iterate 2 refine wN rfl rfl rfl (v28 rfl ?_)
     refine we rfl (vc_ret (r_fn rfl ?_))
     show some (AV.bool false) = some (AV.bool (baseOk b))
     have he : baseOk b = false := by simp only [baseOk, hg21, Bool.true_and, Bool.and_true, Bool.and_false, Bool.false_and]
     rw [he]
   ·
    refine v28 rfl ?_
    iterate 3 refine wS (wanted_f 16 (by kernel_rfl) rfl) (v28 rfl ?_)
    iterate 2 refine wN rfl rfl rfl (v28 rfl ?_)
    iterate 5 refine wS (wanted_f 21 (by kernel_rfl) rfl) (v28 rfl ?_)
    iterate 2 refine wN rfl rfl rfl (v28 rfl ?_)
    refine we rfl (vc_ret (r_fn rfl ?_))
    show some (AV.bool false) = some (AV.bool (baseOk b))
    have he : baseOk b = false := by simp only [baseOk, hg16, Bool.true_and, Bool.and_true, Bool.and_false, Bool.false_and]
    rw [he]
  ·
   refine v28 rfl ?_
   iterate 3 refine wS (wanted_f 11 (by kernel_rfl) rfl) (v28 rfl ?_)
   iterate 2 refine wN rfl rfl rfl (v28 rfl ?_)
   iterate 3 refine wS (wanted_f 16 (by kernel_rfl) rfl) (v28 rfl ?_)
   iterate 2 refine wN rfl rfl rfl (v28 rfl ?_)
   iterate 5 refine wS (wanted_f 21 (by kernel_rfl) rfl) (v28 rfl ?_)
   iterate 2 refine wN rfl rfl rfl (v28 rfl ?_)
   refine we rfl (vc_ret (r_fn rfl ?_))
   show some (AV.bool false) = some (AV.bool (baseOk b))
   have he : baseOk b = false := by simp only [baseOk, hg11, Bool.true_and, Bool.and_true, Bool.and_false, Bool.false_and]
   rw [he]
 ·
  refine v28 rfl ?_
  iterate 3 refine wS (wanted_f 6 (by kernel_rfl) rfl) (v28 rfl ?_)
  iterate 2 refine wN rfl rfl rfl (v28 rfl ?_)
  iterate 3 refine wS (wanted_f 11 (by kernel_rfl) rfl) (v28 rfl ?_)
  iterate 2 refine wN rfl rfl rfl (v28 rfl ?_)
  iterate 3 refine wS (wanted_f 16 (by kernel_rfl) rfl) (v28 rfl ?_)
  iterate 2 refine wN rfl rfl rfl (v28 rfl ?_)
  iterate 5 refine wS (wanted_f 21 (by kernel_rfl) rfl) (v28 rfl ?_)
  iterate 2 refine wN rfl rfl rfl (v28 rfl ?_)
  refine we rfl (vc_ret (r_fn rfl ?_))
  show some (AV.bool false) = some (AV.bool (baseOk b))
  have he : baseOk b = false := by simp only [baseOk, hg6, Bool.true_and, Bool.and_true, Bool.and_false, Bool.false_and]
  rw [he]
end Go.Vi
namespace Go.Vi
open Go Go.Vi Go.Proofs
attribute [local irreducible] vops vopsD vc
def parentOf (ts : List PT) (t : Int) : Int := match ts[t.toNat]? with
 | some u => u.parent
 | none => -1
def chain (ts : List PT) : Nat → Int → List Int
 | 0, _ => []
 | f + 1, t => if t < 0 then [] else t :: chain ts f (parentOf ts t)
def Ups (ts : List PT) (n : Nat) : Prop := ∀ (j : Nat) (u : PT), j < n → ts[j]? = some u → -1 ≤ u.parent ∧ u.parent < j
def way (ts : List PT) (t : Int) : List Int := chain ts (t.toNat + 1) t
theorem parent_lt {ts : List PT} {n : Nat} {t : Int} (h : Ups ts n) (hn : n ≤ ts.length) (h0 : 0 ≤ t) (ht : t < n) : -1 ≤ parentOf ts t ∧ parentOf ts t < t := by
 obtain ⟨u, hu⟩ : ∃ u, ts[t.toNat]? = some u := ⟨_, List.getElem?_eq_getElem (by omega)⟩
 have := h t.toNat u (by omega) hu
 simp only [parentOf, hu]
 omega
theorem chain_fuel {ts : List PT} {n : Nat} (h : Ups ts n) (hn : n ≤ ts.length) : ∀ (f g : Nat) (t : Int), t < n → t < f → t < g → chain ts f t = chain ts g t
 | 0, 0, t, _, _, _ => rfl
 | 0, g + 1, t, _, h1, _ => by simp [chain]; omega
 | f + 1, 0, t, _, _, h2 => by simp [chain]; omega
 | f + 1, g + 1, t, h0, h1, h2 => by
   simp only [chain]
   split
   · rfl
   · have := parent_lt h hn (by omega) h0
     rw [chain_fuel h hn f g _ (by omega) (by omega) (by omega)]
theorem way_neg {ts : List PT} {t : Int} (h : t < 0) : way ts t = [] := by simp [way, chain, h]
theorem way_step {ts : List PT} {n : Nat} {t : Int} (h : Ups ts n) (hn : n ≤ ts.length) (h0 : 0 ≤ t) (ht : t < n) : way ts t = t :: way ts (parentOf ts t) := by
 have := parent_lt h hn h0 ht
 show chain ts (t.toNat + 1) t = _
 simp only [chain]
 rw [if_neg (by omega)]
 congr 1
 exact chain_fuel h hn _ _ _ (by omega) (by omega) (by omega)
def wv (L : Nat) (out : List Int) : AV := match out with
 | [] => .nils
 | [x] => .list .tight [[.int .i64 x]]
 | _ => .row false L 0 out.length
def wo (out : List Int) : VO := match out with
 | [] => .dead
 | [_] => .dead
 | _ => .arr 3 1 (wrows out)
def wl (out : List Int) : AV := match out with
 | [] => .nils
 | [x] => .list .tight [[.int .i64 x]]
 | _ => .list .loose (wrows out)
theorem wl_L (out : List Int) : IsL (wl out) := by
 match out with
 | [] => exact .inl rfl
 | [x] => exact .inr ⟨_, _, rfl⟩
 | x :: y :: r => exact .inr ⟨_, _, rfl⟩
theorem lrows_wl (out : List Int) : lrows (wl out) = wrows out := by
 match out with
 | [] => rfl
 | [x] => rfl
 | x :: y :: r => rfl
theorem wv_N {n : Nat} {H : Hp} {L : Nat} {out : List Int} (h : H[L]? = some (wo out)) : Vi.valN n H (wv L out) := by
 match out, h with
 | [], _ => trivial
 | [x], _ => trivial
 | x :: y :: r, h => exact .inr ⟨_, h, rfl⟩
theorem wo_N {n : Nat} {H : Hp} {out : List Int} : objN n H (wo out) := by
 match out with
 | [] => trivial
 | [x] => trivial
 | x :: y :: r => exact rowsN_val wrows_val
theorem retD_row' {d : Nat} {H : Hp} {l n : Nat} {b : Bool} {T : TypeId} {sz : Nat} {rows out : List (List AV)} (h : H[l]? = some (.arr T sz rows)) (hn : rows.length = n) (hr : mapL (mapL (retD d H)) rows = some out) : retD (d + 1) H (.row b l 0 n) = some (.list .loose out) := by
 subst hn
 have hro : rowsOf H (.row b l 0 rows.length) = some rows := by simp [rowsOf, h]
 show (match rowsOf H (.row b l 0 rows.length) with
  | some rows => (mapL (mapL (retD d H)) rows).map (AV.list .loose)
  | none => none) = _
 rw [hro]
 show (mapL (mapL (retD d H)) rows).map (AV.list .loose) = _
 rw [hr]
 rfl
theorem wv_ret {H : Hp} {L : Nat} {out : List Int} (h : H[L]? = some (wo out)) : retv H (wv L out) = some (wl out) := by
 match out, h with
 | [], _ => rfl
 | [x], _ => rfl
 | x :: y :: r, h =>
   show retD 3 H (.row false L 0 (x :: y :: r).length) = _
   exact retD_row' h (by simp [wrows]) (mapL_id fun r hr => mapL_id fun z hz => retD_val (List.all_eq_true.1 (List.all_eq_true.1 wrows_val r hr) z hz))
theorem base_ren {σ : List Nat} {b : PB} (hL : IsL b.tx) (hLs : IsL b.sx) : Vi.ren1 σ (.agg (encB b)) = some (.agg (encB b)) := by
 show (mapL (Vi.ren0 σ) [.str b.name, .int .i64 b.kind, b.tx, b.sx]).map AV.agg = _
 have h : mapL (Vi.ren0 σ) [.str b.name, .int .i64 b.kind, b.tx, b.sx] = some [.str b.name, .int .i64 b.kind, b.tx, b.sx] := mapL_cons rfl (mapL_cons rfl (mapL_cons hL.ren0 (mapL_cons hLs.ren0 mapL_nil)))
 rw [h]
 rfl
theorem base_renO {σ : List Nat} {b : PB} (hL : IsL b.tx) (hLs : IsL b.sx) : mapL (mapL (Vi.ren0 σ)) [[.str b.name, .int .i64 b.kind, b.tx, b.sx]] = some [[.str b.name, .int .i64 b.kind, b.tx, b.sx]] :=
 mapL_cons (mapL_cons rfl (mapL_cons rfl (mapL_cons hL.ren0 (mapL_cons hLs.ren0 mapL_nil)))) mapL_nil
theorem base_N {n : Nat} {H : Hp} {b : PB} (hL : IsL b.tx) (hLs : IsL b.sx) : Vi.valN n H (.agg (encB b)) := by
 intro x hx
 simp only [encB, List.mem_cons, List.not_mem_nil, or_false] at hx
 rcases hx with rfl | rfl | rfl | rfl
 · trivial
 · trivial
 · exact hL.leafN
 · exact hLs.leafN
theorem wv_src {H : Hp} {L : Nat} {out : List Int} (h : H[L]? = some (wo out)) : srcRows H (wv L out) = some (wrows out) := by
 match out, h with
 | [], _ => rfl
 | [x], _ => rfl
 | x :: y :: r, h =>
   show rowsOf H (.row false L 0 (x :: y :: r).length) = _
   have h' : H[L]? = some (.arr 3 1 (wrows (x :: y :: r))) := h
   simp only [rowsOf, h']
   rw [if_pos (by simp [wrows])]
   simp only [List.drop_zero]
   rw [List.take_of_length_le (by simp [wrows])]
theorem wrows_len {ws : List Int} : lenOk 1 (wrows ws) = true := List.all_eq_true.2 fun r hr => by
 obtain ⟨w, _, rfl⟩ := List.mem_map.1 hr
 rfl
theorem wv_frz {H : Hp} {ws : List Int} : frzRows H (wrows ws) = some (H, wrows ws) := frzRows_val fun r hr x hx => frz_val (List.all_eq_true.1 (List.all_eq_true.1 wrows_val r hr) x hx)
theorem wv_nil {H : Hp} {L : Nat} {t : Int} (h : H[L]? = some (wo [])) : vappend Tryz.prog H 35 35 (.list .tight [[.int .i64 t]]) (wv L []) = some (.list .tight [[.int .i64 t]], H) := by
 have hx := wv_src (out := []) h
 unfold vappend vappendF
 simp only [el35, Tryz.underlying35, zc3, by3, hx]
 rw [if_neg (by decide), if_pos ⟨rfl, by decide, by decide, rfl, by simp [wv, AV.isStr], rfl⟩, if_pos (show (wrows []).length = 0 from rfl)]
theorem wv_cons {H : Hp} {L : Nat} {t x : Int} {r : List Int} (h : H[L]? = some (wo (x :: r))) (hl : r.length ≤ 2000) : vappend Tryz.prog H 35 35 (.list .tight [[.int .i64 t]]) (wv L (x :: r)) = some (.row false H.length 0 (r.length + 1 + 1), H ++ [.arr 3 1 (wrows (t :: x :: r))]) := by
 have hx := wv_src (out := x :: r) h
 have hs : (wv L (x :: r)).isStr = false := by cases r <;> rfl
 have hn0 : ¬ (wrows (x :: r)).length = 0 := by simp [wrows]
 unfold vappend vappendF
 simp only [el35, Tryz.underlying35, zc3, by3, hx]
 rw [if_neg (by decide), if_pos ⟨rfl, by decide, by decide, wrows_len, by simp [hs], rfl⟩, if_neg hn0, wv_frz]
 simp only
 rw [if_pos ⟨rfl, by simp [wrows]; omega⟩]
 simp [wrows]
 omega
set_option maxHeartbeats 4000000 in
theorem zAbove (G : Glob) (b : PB) (hb : BaseIs b) (n : Nat) (hU : Ups b.types n) (hn : n ≤ b.types.length) (a t0 : Int) (h0 : 0 ≤ t0) (ht : t0 < n) : Vi.Fn Tryz.prog G 88 [.agg (encB b), .int .i64 a, .int .i64 t0] (.bool ((way b.types (parentOf b.types t0)).contains a)) := by
 have hL := hb.types.isL
 have hLs := hb.search.isL
 have hxl : (lrows b.tx).length = b.types.length := by rw [hb.types.rows]; simp
 obtain ⟨u, hu⟩ : ∃ u, b.types[(t0).toNat]? = some u := ⟨_, List.getElem?_eq_getElem (by omega)⟩
 have hri : (lrows b.tx)[(t0).toNat]? = some [.str u.name, .int .i64 u.parent, .int .i64 u.min, .int .i64 u.size, u.fx, .int .i64 u.key, .bool u.unique, .bool u.last] := by rw [hb.types.rows, List.getElem?_map, hu]; rfl
 have hpu : parentOf b.types (t0) = u.parent := by simp only [parentOf, hu]
 have hpl := parent_lt hU hn (t := t0) (by omega) (by omega)
 refine fn_body (fun _ => .iso) Tryz.func88 rfl ?_
 refine vc_norm (env' := (_ :: _ :: _ :: _ :: _ :: _ :: _ :: _ :: _ :: _ :: _ :: _ :: _ :: _ :: _ :: _ :: _ :: _ :: _ :: _ :: _ :: _ :: _ :: _ :: [])) (H' := []) rfl rfl ?_
 refine vs (wr ?_)
 refine w_opH (v := .ptr 0 0 0) (env' := _) (H2 := [.arr 25 4 [[_, _, _, _]]]) rfl rfl rfl rfl (fun _ h => h) (v24 rfl ?_)
 refine wN rfl rfl rfl (v24 rfl ?_)
 refine we rfl (vs (vs (wr ?_)))
 refine wN (v := .ptr 0 0 2) rfl rfl rfl (v24 rfl ?_)
 iterate 2 refine wN rfl rfl rfl (v24 rfl ?_)
 first | refine wN (v := .iptr _ [_, _, _, _, _, _, _, _]) rfl rfl rfl (v24 rfl ?_) | (refine x_index rfl rfl ‹_› rfl el22 (by omega) ‹_› rfl (fun bo => ?_); refine v24 rfl ?_)
 refine wN (v := .iptr _ [_, _, _, _, _, _, _]) rfl rfl rfl (v24 rfl ?_)
 iterate 2 refine wN rfl rfl rfl (v24 rfl ?_)
 refine we rfl (vc_block ?_)
 refine vc_loopU (α := { t : Int // -1 ≤ t ∧ t < n ∧ (way b.types (parentOf b.types t0)).contains a = (way b.types t).contains a }) (fun t => ([none, none, some (.int .i64 t.1), none, none, none, some .undef] ++ (rnone 6 ++ (rundef 11)))) (fun t => (t.1 + 1).toNat) ⟨u.parent, by omega, by omega, by rw [hpu]⟩ (by repeat' first | exact trivial | refine ⟨.inr rfl, ?_⟩ | refine ⟨.inl rfl, ?_⟩ | fail) (fun _ => ⟨Nat.zero_le _, (by repeat' first | exact trivial | exact IsL.belowV ‹_› | refine ⟨?_, ?_⟩ | exact IsL.below ‹_› | (simp [valB, leafB, cellsB, IsL.below, *]; done) | (simp [valB, leafB, cellsB, IsL.below, *]; omega) | fail), (by repeat' first | exact trivial | exact IsL.below (by assumption) | refine ⟨?_, ?_⟩ | (simp [leafB]; done))⟩) ?_
 rintro ⟨t, h1, h2, h3⟩ Y0 hY0
 refine vc_norm (env' := (_ :: _ :: (.int .i64 t) :: _ :: _ :: _ :: _ :: _ :: _ :: _ :: _ :: _ :: _ :: _ :: _ :: _ :: _ :: _ :: _ :: _ :: _ :: _ :: _ :: _ :: [])) (H' := [.arr 25 4 [[_, _, _, _]]]) rfl rfl ?_
 refine vs (vs (wr ?_))
 iterate 2 refine wN rfl rfl rfl (v24 rfl ?_)
 refine we rfl ?_
 refine vc_cond rfl (fun hc14 => ?_) (fun hc14 => ?_)
 ·
  clear hri hpu hpl hu
  have ht0 : 0 ≤ t := of_decide_eq_true hc14
  obtain ⟨u, hu⟩ : ∃ u, b.types[(t).toNat]? = some u := ⟨_, List.getElem?_eq_getElem (by omega)⟩
  have hri : (lrows b.tx)[(t).toNat]? = some [.str u.name, .int .i64 u.parent, .int .i64 u.min, .int .i64 u.size, u.fx, .int .i64 u.key, .bool u.unique, .bool u.last] := by rw [hb.types.rows, List.getElem?_map, hu]; rfl
  have hpu : parentOf b.types (t) = u.parent := by simp only [parentOf, hu]
  have hpl := parent_lt hU hn (t := t) (by omega) (by omega)
  refine vc_skip (n_then (vs (vc_block (vs (wr ?_)))))
  iterate 3 refine wN rfl rfl rfl (v24 rfl ?_)
  refine we rfl ?_
  refine vc_cond rfl (fun hc23 => ?_) (fun hc23 => ?_)
  ·
   refine vs (wr ?_)
   refine wN rfl rfl rfl (v24 rfl ?_)
   refine we rfl (vc_ret (r_block (r_then (r_then (r_block (r_then (r_fn rfl ?_)))))))
   show some (AV.bool true) = some (AV.bool _)
   rw [h3, way_step hU hn ht0 h2, List.contains_cons, show (a == t) = true by simp at hc23; rw [hc23]; simp, Bool.true_or]
  ·
   refine vc_skip (n_block (n_then (wr ?_)))
   refine wN (v := .ptr 0 0 2) rfl rfl rfl (v24 rfl ?_)
   iterate 2 refine wN rfl rfl rfl (v24 rfl ?_)
   first | refine wN (v := .iptr _ [_, _, _, _, _, _, _, _]) rfl rfl rfl (v24 rfl ?_) | (refine x_index rfl rfl ‹_› rfl el22 (by omega) ‹_› rfl (fun bo => ?_); refine v24 rfl ?_)
   refine wN (v := .iptr _ [_, _, _, _, _, _, _]) rfl rfl rfl (v24 rfl ?_)
   iterate 2 refine wN rfl rfl rfl (v24 rfl ?_)
   refine we rfl ?_
   refine hY0 ⟨u.parent, by omega, by omega, by rw [h3, way_step hU hn (by omega) h2, List.contains_cons, hpu, show (a == t) = false by rw [beq_eq_false_iff_ne]; intro e; rw [e] at hc23; simp at hc23, Bool.false_or]⟩ (by simp only; omega) _ _ _ ?_ rfl
   repeat' first | exact trivial | refine ⟨.inr rfl, ?_⟩ | refine ⟨.inl rfl, ?_⟩ | refine ⟨.inl ?_, ?_⟩ | fail
   all_goals first | rfl
 ·
  refine vc_exit (x_then (x_then (x_same (n_then (vs (wr ?_))))))
  refine wN rfl rfl rfl (v24 rfl ?_)
  refine we rfl (vc_ret (r_fn rfl ?_))
  show some (AV.bool false) = some (AV.bool _)
  rw [h3, way_neg (by have := of_decide_eq_false hc14; omega)]
  rfl
set_option maxHeartbeats 4000000 in
theorem zWay (G : Glob) (b : PB) (hb : BaseIs b) (n : Nat) (hU : Ups b.types n) (hn : n ≤ b.types.length) (t0 : Int) (h0 : -1 ≤ t0) (ht : t0 < n) (hn8 : n ≤ 1000) : Vi.Fn Tryz.prog G 89 [.agg (encB b), .int .i64 t0] (wl (way b.types t0).reverse) := by
 have hL := hb.types.isL
 have hLs := hb.search.isL
 have hxl : (lrows b.tx).length = b.types.length := by rw [hb.types.rows]; simp
 refine fn_body (fun _ => .iso) Tryz.func89 rfl ?_
 refine vc_norm (env' := [_, _, _, _, _, _, _, _, _, _, _, _, _, _, _, _, _, _, _]) (H' := []) rfl rfl ?_
 refine vs (wr ?_)
 refine w_opH (v := .ptr 0 0 0) (env' := _) (H2 := [.arr 25 4 [[_, _, _, _]]]) rfl rfl rfl rfl (fun _ h => h) (v19 rfl ?_)
 refine wN rfl rfl rfl (v19 rfl ?_)
 refine we rfl (vs (wr ?_))
 refine wN rfl rfl rfl (v19 rfl ?_)
 refine we rfl (vs (vc_block ?_))
 refine vc_loopN (α := { a : Int × List Int // -1 ≤ a.1 ∧ a.1 < n ∧ a.2.length + (a.1 + 1).toNat ≤ 1000 ∧ (way b.types t0).reverse = (way b.types a.1).reverse ++ a.2 }) (fun a => ([none, some (.int .i64 a.1.1), none, none, none, some (wv 1 a.1.2)] ++ (rundef 12 ++ ([none])))) (fun a => [VO.arr 25 4 [[.str b.name, .int .i64 b.kind, b.tx, b.sx]], wo a.1.2]) (fun a => (a.1.1 + 1).toNat) ⟨(t0, []), h0, ht, by simp; omega, by simp⟩ [0, 1] (by repeat' first | exact trivial | refine ⟨.inl rfl, ?_⟩ | refine ⟨.inr rfl, ?_⟩ | refine ⟨.inr (IsL.ren1 ‹_›), ?_⟩ | refine ⟨(.inr (base_ren hL hLs)), ?_⟩ | fail) (by decide) (fun _ h => absurd h (by omega)) ⟨.inr ⟨_, rfl, ren_arr (base_renO hL hLs)⟩, .inl rfl, trivial⟩ (fun a => ⟨Nat.zero_le _, (by repeat' first | exact trivial | exact .inr ⟨_, rfl, rfl⟩ | exact IsL.valN ‹_› | exact (base_N hL hLs) | exact (wv_N rfl) | refine ⟨?_, ?_⟩ | fail), ⟨(fun r hr x hx => by simp at hr; subst hr; simp at hx; rcases hx with rfl | rfl | rfl | rfl <;> first | trivial | exact IsL.leafN (by assumption)), wo_N, trivial⟩⟩) ?_
 rintro ⟨⟨t, out⟩, hI⟩ Y0 hY0
 refine vc_norm (env' := [_, .int .i64 t, _, _, _, wv 1 out, _, _, _, _, _, _, _, _, _, _, _, _, _]) (H' := [VO.arr 25 4 [[.str b.name, .int .i64 b.kind, b.tx, b.sx]], wo out]) rfl rfl ?_
 obtain ⟨h1, h2, h4, h3⟩ : -1 ≤ t ∧ t < n ∧ out.length + (t + 1).toNat ≤ 1000 ∧ (way b.types t0).reverse = (way b.types t).reverse ++ out := hI
 refine vs (vs (wr ?_))
 iterate 2 refine wN rfl rfl rfl (v19 rfl ?_)
 refine we rfl ?_
 refine vc_cond rfl (fun hc7 => ?_) (fun hc7 => ?_)
 ·
  have ht0 : 0 ≤ t := of_decide_eq_true hc7
  obtain ⟨u, hu⟩ : ∃ u, b.types[(t).toNat]? = some u := ⟨_, List.getElem?_eq_getElem (by omega)⟩
  have hri : (lrows b.tx)[(t).toNat]? = some [.str u.name, .int .i64 u.parent, .int .i64 u.min, .int .i64 u.size, u.fx, .int .i64 u.key, .bool u.unique, .bool u.last] := by rw [hb.types.rows, List.getElem?_map, hu]; rfl
  have hpu : parentOf b.types (t) = u.parent := by simp only [parentOf, hu]
  have hpl := parent_lt hU hn (t := t) (by omega) (by omega)
  refine vc_skip (n_then (vc_block (vs (wr ?_))))
  iterate 3 refine wN rfl rfl rfl (v19 rfl ?_)
  rcases out with _ | ⟨x, r⟩
  ·
   refine w_opH (v := .list .tight [[.int .i64 t]]) (env' := _) (H2 := [VO.arr 25 4 [[.str b.name, .int .i64 b.kind, b.tx, b.sx]], wo []]) rfl (wv_nil (H := [VO.arr 25 4 [[.str b.name, .int .i64 b.kind, b.tx, b.sx]], wo []]) (L := 1) rfl) rfl (rfl) (fun _ h => h) (v19 rfl ?_)
   refine wN rfl rfl rfl (v19 rfl ?_)
   refine we rfl (wr ?_)
   refine wN (v := .ptr 0 0 2) rfl rfl rfl (v19 rfl ?_)
   iterate 2 refine wN rfl rfl rfl (v19 rfl ?_)
   first | refine wN (v := .iptr _ [_, _, _, _, _, _, _, _]) rfl rfl rfl (v19 rfl ?_) | (refine x_index rfl rfl ‹_› rfl el22 (by omega) ‹_› rfl (fun bo => ?_); refine v19 rfl ?_)
   refine wN (v := .iptr _ [_, _, _, _, _, _, _]) rfl rfl rfl (v19 rfl ?_)
   iterate 2 refine wN rfl rfl rfl (v19 rfl ?_)
   refine w_endB rfl (n_then ?_)
   refine hY0 ⟨(u.parent, [t]), by omega, by omega, by simp; omega, by rw [h3, way_step hU hn ht0 h2, hpu]; simp⟩ (by have := hpl; simp only; omega) _ _ [0, 1] ?_ (by decide) (fun _ h => absurd h (by omega)) ⟨.inr ⟨_, rfl, ren_arr (base_renO hL hLs)⟩, .inl rfl, trivial⟩
   repeat' first | exact trivial | refine ⟨.inl rfl, ?_⟩ | refine ⟨.inr rfl, ?_⟩ | refine ⟨.inr (IsL.ren1 ‹_›), ?_⟩ | refine ⟨(.inr (base_ren hL hLs)), ?_⟩ | fail
  ·
   refine w_opH (v := .row false 2 0 (r.length + 1 + 1)) (env' := _) (H2 := [VO.arr 25 4 [[.str b.name, .int .i64 b.kind, b.tx, b.sx]], wo (x :: r), .arr 3 1 (wrows (t :: x :: r))]) rfl (wv_cons (H := [VO.arr 25 4 [[.str b.name, .int .i64 b.kind, b.tx, b.sx]], wo (x :: r)]) (L := 1) rfl (by simp at h4; omega)) rfl (rfl) (fun _ h => h) (v19 rfl ?_)
   refine wN rfl rfl rfl (v19 rfl ?_)
   refine we rfl (wr ?_)
   refine wN (v := .ptr 0 0 2) rfl rfl rfl (v19 rfl ?_)
   iterate 2 refine wN rfl rfl rfl (v19 rfl ?_)
   first | refine wN (v := .iptr _ [_, _, _, _, _, _, _, _]) rfl rfl rfl (v19 rfl ?_) | (refine x_index rfl rfl ‹_› rfl el22 (by omega) ‹_› rfl (fun bo => ?_); refine v19 rfl ?_)
   refine wN (v := .iptr _ [_, _, _, _, _, _, _]) rfl rfl rfl (v19 rfl ?_)
   iterate 2 refine wN rfl rfl rfl (v19 rfl ?_)
   refine w_endB rfl (n_then ?_)
   refine hY0 ⟨(u.parent, t :: x :: r), by omega, by omega, by simp at h4 ⊢; omega, by rw [h3, way_step hU hn ht0 h2, hpu]; simp⟩ (by have := hpl; simp only; omega) _ _ [0, 2] ?_ (by decide) (fun _ h => absurd h (by omega)) ⟨.inr ⟨_, rfl, ren_arr (base_renO hL hLs)⟩, .inr ⟨_, rfl, ren_arr (ren_rows wrows_val)⟩, trivial⟩
   repeat' first | exact trivial | refine ⟨.inl rfl, ?_⟩ | refine ⟨.inr rfl, ?_⟩ | refine ⟨.inr (IsL.ren1 ‹_›), ?_⟩ | refine ⟨(.inr (base_ren hL hLs)), ?_⟩ | fail
 ·
  have hout : (way b.types t0).reverse = out := by rw [h3, way_neg (by have := of_decide_eq_false hc7; omega)]; rfl
  refine vc_exit (x_then (x_then (x_same (n_then (vs (wr ?_))))))
  iterate 2 refine wN rfl rfl rfl (v19 rfl ?_)
  refine we rfl (vc_ret (r_fn rfl ?_))
  show retv _ (wv 1 out) = some (wl (way b.types t0).reverse)
  rw [hout]
  exact wv_ret rfl
end Go.Vi
namespace Go.Vi
open Go Go.Vi
def bl (s : ByteArray) : List UInt8 := s.data.toList
def bs (l : List UInt8) : ByteArray := ⟨l.toArray⟩
theorem bl_bs (l : List UInt8) : bl (bs l) = l := by simp [bl, bs]
theorem bs_bl (s : ByteArray) : bs (bl s) = s := by
 obtain ⟨d⟩ := s
 show (⟨d.toList.toArray⟩ : ByteArray) = ⟨d⟩
 rw [Array.toArray_toList]
theorem bl_size (s : ByteArray) : s.size = (bl s).length := rfl
theorem bs_size (l : List UInt8) : (bs l).size = l.length := by rw [bl_size, bl_bs]
theorem bl_inj {s t : ByteArray} (h : bl s = bl t) : s = t := by rw [← bs_bl s, h, bs_bl]
theorem bl_app (s t : ByteArray) : bl (s ++ t) = bl s ++ bl t := by simp [bl]
theorem app_bs (a c : List UInt8) : bs a ++ bs c = bs (a ++ c) := bl_inj (by rw [bl_app, bl_bs, bl_bs, bl_bs])
theorem bl_extract (s : ByteArray) (a z : Nat) : bl (s.extract a z) = ((bl s).drop a).take (z - a) := by
 simp [bl, ByteArray.data_extract, List.extract]
theorem get_bl (s : ByteArray) (i : Nat) : s[i]? = (bl s)[i]? := by
 by_cases h : i < s.size
 · rw [getElem?_pos s i h, List.getElem?_eq_getElem (by rw [← bl_size]; exact h)]
   rfl
 · rw [getElem?_neg s i h, List.getElem?_eq_none (by rw [← bl_size]; omega)]
theorem seq_bl (s t : ByteArray) : seq s t = (bl s == bl t) := by
 unfold seq bl
 rw [ByteArray.toList_eq, ByteArray.toList_eq]
theorem seq_eq {s t : ByteArray} : seq s t = true ↔ s = t := by
 rw [seq_bl]
 constructor
 · intro h; exact bl_inj (eq_of_beq h)
 · rintro rfl; simp
def bRows (l : List UInt8) : List (List AV) := l.map fun c => [.int .u8 (c.toNat : Nat)]
theorem bRows_app (a c : List UInt8) : bRows (a ++ c) = bRows a ++ bRows c := by simp [bRows]
theorem bRows_len (a : List UInt8) : (bRows a).length = a.length := by simp [bRows]
theorem bRows_val {l : List UInt8} : allVal (bRows l) = true := List.all_eq_true.2 fun r hr => by
 obtain ⟨c, _, rfl⟩ := List.mem_map.1 hr
 rfl
theorem bRows_len1 {l : List UInt8} : lenOk 1 (bRows l) = true := List.all_eq_true.2 fun r hr => by
 obtain ⟨c, _, rfl⟩ := List.mem_map.1 hr
 rfl
theorem nums_bytes : ∀ (l : List UInt8), numsOf (bRows l) = some (l.map fun c => (c.toNat : Int))
 | [] => rfl
 | c :: l => by
   have ih := nums_bytes l
   simp only [bRows, List.map_cons, numsOf] at ih ⊢
   rw [ih]
theorem str_nums (l : List UInt8) : strOfNums (l.map fun c => (c.toNat : Int)) = bs l := by
 unfold strOfNums bs
 congr 2
 rw [List.map_map]
 conv => rhs; rw [← List.map_id' l]
 apply List.map_congr_left
 intro c _
 simp
def hd (n : Nat) : UInt8 := UInt8.ofNat (if n < 10 then 48 + n else 87 + n)
def hexByte (c : UInt8) : List UInt8 := [hd (c.toNat / 16), hd (c.toNat % 16)]
def hexL (l : List UInt8) : List UInt8 := l.flatMap hexByte
def hexS (s : ByteArray) : ByteArray := bs (hexL (bl s))
theorem hexL_len (l : List UInt8) : (hexL l).length = 2 * l.length := by
 induction l with
 | nil => rfl
 | cons c l ih =>
   have : hexL (c :: l) = hexByte c ++ hexL l := by simp [hexL]
   rw [this, List.length_append, ih]
   simp [hexByte]
   omega
theorem hexL_snoc {l : List UInt8} {i : Nat} {c : UInt8} (h : l[i]? = some c) : hexL (l.take (i + 1)) = hexL (l.take i) ++ hexByte c := by
 rw [List.take_add_one, h]
 simp [hexL]
def dv (c : UInt8) : Int := if 48 ≤ c.toNat ∧ c.toNat ≤ 57 then (c.toNat : Int) - 48 else if 97 ≤ c.toNat ∧ c.toNat ≤ 102 then (c.toNat : Int) - 87 else -1
theorem dv_hd {n : Nat} (h : n < 16) : dv (hd n) = n := by
 have : ∀ m : Fin 16, dv (hd m.1) = (m.1 : Int) := by decide
 exact this ⟨n, h⟩
theorem dv_range (c : UInt8) : -1 ≤ dv c ∧ dv c < 16 := by
 unfold dv
 split
 · omega
 · split <;> omega
def decL : List UInt8 → Option (List UInt8)
 | a :: c :: r => if dv a < 0 ∨ dv c < 0 then none else (decL r).map (UInt8.ofNat (dv a * 16 + dv c).toNat :: ·)
 | _ => some []
theorem dec_hex (l : List UInt8) : decL (hexL l) = some l := by
 induction l with
 | nil => rfl
 | cons c l ih =>
   have e : hexL (c :: l) = hd (c.toNat / 16) :: hd (c.toNat % 16) :: hexL l := by simp [hexL, hexByte]
   have hc := c.toNat_lt
   rw [e, decL, dv_hd (by omega), dv_hd (by omega), if_neg (by omega), ih]
   simp only [Option.map_some, Option.some.injEq, List.cons.injEq, and_true]
   rw [show ((c.toNat / 16 : Nat) : Int) * 16 + ((c.toNat % 16 : Nat) : Int) = (c.toNat : Int) by omega]
   simp
end Go.Vi
namespace Go.Vi
open Go Go.Vi
def splitL (c : UInt8) : List UInt8 → List (List UInt8)
 | [] => [[]]
 | x :: r => if x = c then [] :: splitL c r else match splitL c r with
   | [] => [[x]]
   | w :: ws => (x :: w) :: ws
theorem split_ne (c : UInt8) : ∀ (l : List UInt8), splitL c l ≠ []
 | [] => by simp [splitL]
 | x :: r => by
   unfold splitL
   split
   · simp
   · split <;> simp
theorem split_none {c : UInt8} : ∀ {l : List UInt8}, c ∉ l → splitL c l = [l]
 | [], _ => rfl
 | x :: r, h => by
   have h1 : ¬ x = c := fun e => h (by rw [e]; exact List.mem_cons_self ..)
   have ih := split_none (c := c) (l := r) (fun e => h (List.mem_cons_of_mem _ e))
   rw [splitL, if_neg h1, ih]
theorem split_app {c : UInt8} {q : List UInt8} : ∀ {p : List UInt8}, c ∉ p → splitL c (p ++ c :: q) = p :: splitL c q
 | [], _ => by simp [splitL]
 | x :: r, h => by
   have h1 : ¬ x = c := fun e => h (by rw [e]; exact List.mem_cons_self ..)
   have ih := split_app (c := c) (q := q) (p := r) (fun e => h (List.mem_cons_of_mem _ e))
   rw [List.cons_append, splitL, if_neg h1, ih]
theorem index_app {c : UInt8} {q : List UInt8} : ∀ {p : List UInt8}, c ∉ p → Lib.indexByte (p ++ c :: q) c = (p.length : Int)
 | [], _ => by simp [Lib.indexByte]
 | x :: r, h => by
   have h1 : (x == c) = false := by
    rw [beq_eq_false_iff_ne]
    exact fun e => h (by rw [e]; exact List.mem_cons_self ..)
   have ih := index_app (c := c) (q := q) (p := r) (fun e => h (List.mem_cons_of_mem _ e))
   have h2 : ((r.length : Int) == -1) = false := by
    rw [beq_eq_false_iff_ne]; omega
   rw [List.cons_append, Lib.indexByte, h1, ih, h2]
   simp
theorem split_mem {c : UInt8} {l : List UInt8} (h : c ∈ l) : ∃ p q, l = p ++ c :: q ∧ c ∉ p := by
 induction l with
 | nil => cases h
 | cons x r ih =>
   by_cases e : x = c
   · exact ⟨[], r, by rw [e]; rfl, by simp⟩
   · obtain ⟨p, q, h1, h2⟩ := ih ((List.mem_cons.1 h).resolve_left (fun e' => e e'.symm))
     exact ⟨x :: p, q, by rw [h1]; rfl, by
      intro h3
      rcases List.mem_cons.1 h3 with h3 | h3
      · exact e h3.symm
      · exact h2 h3⟩
structure SInv (c : UInt8) (l : List UInt8) (ds : List (List UInt8)) (r : List UInt8) : Prop where
 eq : splitL c l = ds ++ splitL c r
 cnt : ds.length + r.count c = l.count c
 le : r.length ≤ l.length
theorem sinv0 (c : UInt8) (l : List UInt8) : SInv c l [] l := ⟨rfl, by simp, Nat.le_refl _⟩
theorem SInv.next {c : UInt8} {l : List UInt8} {ds : List (List UInt8)} {p q : List UInt8} (h : SInv c l ds (p ++ c :: q)) (hp : c ∉ p) : SInv c l (ds ++ [p]) q := by
 refine ⟨?_, ?_, ?_⟩
 · rw [h.eq, split_app hp]; simp
 · have := h.cnt
   rw [List.count_append, List.count_cons_self, List.count_eq_zero.2 hp] at this
   simp
   omega
 · have := h.le
   simp at this
   omega
theorem SInv.done {c : UInt8} {l : List UInt8} {ds : List (List UInt8)} {r : List UInt8} (h : SInv c l ds r) (hi : l.count c ≤ ds.length) : ds.length = l.count c ∧ splitL c l = ds ++ [r] := by
 have h1 := h.cnt
 have h2 : c ∉ r := by
  intro hm
  have := List.count_pos_iff.2 hm
  omega
 exact ⟨by omega, by rw [h.eq, split_none h2]⟩
def sRows (ps : List (List UInt8)) : List (List AV) := ps.map fun p => [.str (bs p)]
theorem sRows_len (ps : List (List UInt8)) : (sRows ps).length = ps.length := by simp [sRows]
theorem sRows_val {ps : List (List UInt8)} : allVal (sRows ps) = true := List.all_eq_true.2 fun r hr => by
 obtain ⟨c, _, rfl⟩ := List.mem_map.1 hr
 rfl
theorem sRows_app (a c : List (List UInt8)) : sRows (a ++ c) = sRows a ++ sRows c := by simp [sRows]
theorem srow_set {ds : List (List UInt8)} {n : Nat} {p : List UInt8} {z : List AV} : (sRows ds ++ List.replicate (n + 1) z).set ds.length [.str (bs p)] = sRows (ds ++ [p]) ++ List.replicate n z := by
 rw [List.set_append_right _ _ (by rw [sRows_len]; omega), sRows_len, Nat.sub_self, List.replicate_succ, List.set_cons_zero, sRows_app]
 simp [sRows]
def hasL (c : UInt8) (l : List UInt8) : Bool := l.getLast? == some c
def trimL (c : UInt8) (l : List UInt8) : List UInt8 := if hasL c l = true then l.dropLast else l
theorem hasL_drop {c : UInt8} {l : List UInt8} (h : 1 ≤ l.length) : (l.drop (l.length - 1) == [c]) = hasL c l := by
 rcases List.eq_nil_or_concat l with rfl | ⟨r, x, rfl⟩
 · simp at h
 · simp [hasL, List.getLast?_concat]
structure CInv2 (c : UInt8) (l : List UInt8) (i k : Nat) (ds : List (List UInt8)) : Prop where
 le : k ≤ i
 le2 : i ≤ l.length
 eq : splitL c l = ds ++ splitL c (l.drop k)
 no : c ∉ (l.drop k).take (i - k)
 len : ds.length ≤ k
theorem cinv20 (c : UInt8) (l : List UInt8) : CInv2 c l 0 0 [] := ⟨Nat.le_refl _, Nat.zero_le _, rfl, by simp, by simp⟩
theorem CInv2.skip {c x : UInt8} {l : List UInt8} {i k : Nat} {ds : List (List UInt8)} (h : CInv2 c l i k ds) (hx : l[i]? = some x) (hn : x ≠ c) : CInv2 c l (i + 1) k ds := by
 have hl := (List.getElem?_eq_some_iff.1 hx).1
 have := h.le
 refine ⟨by omega, by omega, h.eq, ?_, h.len⟩
 rw [show i + 1 - k = (i - k) + 1 by omega, List.take_add_one, List.getElem?_drop, show k + (i - k) = i by omega, hx]
 intro hm
 rcases List.mem_append.1 hm with hm | hm
 · exact h.no hm
 · simp at hm
   exact hn hm.symm
theorem CInv2.cut {c : UInt8} {l : List UInt8} {i k : Nat} {ds : List (List UInt8)} (h : CInv2 c l i k ds) (hx : l[i]? = some c) : CInv2 c l (i + 1) (i + 1) (ds ++ [(l.drop k).take (i - k)]) := by
 have hl := (List.getElem?_eq_some_iff.1 hx).1
 have := h.le
 refine ⟨Nat.le_refl _, by omega, ?_, by simp, by have := h.len; simp; omega⟩
 have e : l.drop k = (l.drop k).take (i - k) ++ c :: l.drop (i + 1) := by
  have hd : (l.drop k).drop (i - k) = c :: l.drop (i + 1) := by
   rw [List.drop_drop, show k + (i - k) = i by omega, List.drop_eq_getElem_cons hl, (List.getElem?_eq_some_iff.1 hx).2]
  rw [← hd, List.take_append_drop]
 rw [h.eq]
 conv => lhs; rw [e]
 rw [split_app h.no]
 simp
theorem CInv2.done {c : UInt8} {l : List UInt8} {i k : Nat} {ds : List (List UInt8)} (h : CInv2 c l i k ds) (hi : l.length ≤ i) : splitL c l = ds ++ [l.drop k] := by
 have h1 := h.no
 rw [List.take_of_length_le (by rw [List.length_drop]; omega)] at h1
 rw [h.eq, split_none h1]
end Go.Vi
