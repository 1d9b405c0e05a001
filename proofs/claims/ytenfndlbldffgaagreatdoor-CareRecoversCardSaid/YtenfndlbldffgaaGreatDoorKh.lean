/- Part of the proofs of the tied cards of Care: the texts CyE CyF CyG CyH CyI CyJ CyK CzFirst CyL CyS. Conditions: none of its own. -/
import Derived.Test.YtenfndlbldffgaaGreatDoorKg
import Derived.Test.YtenfndlbldffgaaGreatDoorKd
import Derived.KernelRfl
import Derived.Test.YtenfndlbldffgaaGreatDoorProg
set_option autoImplicit false
set_option linter.unusedVariables false
set_option linter.unusedSimpArgs false
set_option maxRecDepth 100000
namespace Go.Vi
open Go Go.Vi Go.Proofs
attribute [local irreducible] vops vopsD vc
namespace Lay
def cv : List Nat → List (List AV) → List (List AV)
 | l :: ls, r :: rs => (match r with | [b, s] => [.row false l 0 (lrows b).length, s] | r => r) :: cv ls rs
 | _, _ => []
theorem cv_length : ∀ (ls : List Nat) (rs : List (List AV)), ls.length ≤ rs.length → (cv ls rs).length = ls.length
 | [], rs, h => by cases rs <;> rfl
 | l :: ls, [], h => by simp at h
 | l :: ls, r :: rs, h => by simp [cv, cv_length ls rs (by simpa using h)]
theorem cv_snoc : ∀ (ls : List Nat) (rs : List (List AV)) (l : Nat) (b s : AV), rs[ls.length]? = some [b, s] → cv (ls ++ [l]) rs = cv ls rs ++ [[.row false l 0 (lrows b).length, s]]
 | [], [], l, b, s, h => by cases h
 | [], r :: rs, l, b, s, h => by simp at h; subst h; cases rs <;> rfl
 | a :: ls, [], l, b, s, h => by cases h
 | a :: ls, r :: rs, l, b, s, h => by
   have := cv_snoc ls rs l b s (by simpa using h)
   simp [cv, this]
theorem cv_done : ∀ (ls : List Nat) (rs : List (List AV)) (i l : Nat) (r : List AV), ls[i]? = some l → rs[i]? = some r → PageIs r → (cv ls rs)[i]? = some [.row false l 0 (shOf1 r).1.length, .int .i64 (shOf1 r).2]
 | [], rs, i, l, r, h, _, _ => by cases h
 | a :: ls, [], i, l, r, _, h, _ => by cases h
 | a :: ls, r0 :: rs, 0, l, r, h1, h2, hp => by
   simp at h1 h2
   subst h1
   subst h2
   obtain ⟨t, bs, st, rfl, _⟩ := hp
   rfl
 | a :: ls, r0 :: rs, i + 1, l, r, h1, h2, hp => by
   simpa [cv] using cv_done ls rs i l r (by simpa using h1) (by simpa using h2) hp
structure OInv (H : Hp) (n0 : Nat) (last : Int) (tg : Tg) (rows : List (List AV)) (i : Nat) (Hx : Hp) (L : Nat) (locs : List Nat) : Prop where
 len : locs.length = i
 le : i ≤ rows.length
 c : Hx[n0]? = some (.arr 42 2 [[.int .i64 last, .list tg rows]])
 r : Hx[n0 + 1]? = some (.arr 42 2 [[.int .i64 0, .nils]])
 o : Hx[n0 + 2]? = some (.arr 42 2 [[.int .i64 last, pval L (cv locs rows)]])
 pgs : (cv locs rows = [] ∧ Hx.length + 2 ≤ L) ∨ (cv locs rows ≠ [] ∧ Hx[L]? = some (.arr 95 2 (cv locs rows)))
 byt : ∀ (j l : Nat) (r : List AV), locs[j]? = some l → rows[j]? = some r → Hx[l]? = some (.arr 5 1 (shOf1 r).1)
 nd : locs.Nodup
 gt : ∀ l ∈ locs, n0 + 2 < l ∧ l < Hx.length ∧ l ≠ L
 gL : n0 + 2 < L
 pre : ∀ (l : Nat) (o : VO), H[l]? = some o → Hx[l]? = some o
def oHeap (Hx : Hp) (n0 L : Nat) (last : Int) (bs : List (List AV)) (st : Int) (locs : List Nat) (rows : List (List AV)) : Hp :=
 ((Hx ++ [VO.arr 5 1 bs] ++ [VO.arr 95 2 [[.row false Hx.length 0 bs.length, .int .i64 st]]]).set L .dead ++ [VO.arr 95 2 (cv locs rows ++ [[.row false Hx.length 0 bs.length, .int .i64 st]])]).set (n0 + 2) (VO.arr 42 2 [[.int .i64 last, .row false (Hx.length + 2) 0 ((cv locs rows).length + 1)]])
theorem OInv.next {H : Hp} {n0 L : Nat} {last : Int} {tg : Tg} {rows : List (List AV)} {i : Nat} {Hx : Hp} {locs : List Nat} {t : Tg} {bs : List (List AV)} {st : Int} (h : OInv H n0 last tg rows i Hx L locs) (hn : H.length = n0) (hr : rows[i]? = some [.list t bs, .int .i64 st]) :
 OInv H n0 last tg rows (i + 1) (oHeap Hx n0 L last bs st locs rows) (Hx.length + 2) (locs ++ [Hx.length]) := by
 have hlt := (List.getElem?_eq_some_iff.1 hr).1
 have hcv := cv_snoc locs rows Hx.length _ _ (by rw [h.len]; exact hr)
 have ho := (List.getElem?_eq_some_iff.1 h.o).1
 have hgL := h.gL
 have old : ∀ (l : Nat) (o : VO), Hx[l]? = some o → l ≠ n0 + 2 → l ≠ L → (oHeap Hx n0 L last bs st locs rows)[l]? = some o := fun l o hl h1 h2 =>
  get_set (get_app (get_set (get_app (get_app hl)) (by omega))) (by omega)
 have hlen : (oHeap Hx n0 L last bs st locs rows).length = Hx.length + 3 := by simp [oHeap]
 refine ⟨by simp [h.len], hlt, old _ _ h.c (by omega) (by omega), old _ _ h.r (by omega) (by omega), ?_, .inr ⟨by rw [hcv]; simp, ?_⟩, ?_, ?_, ?_, by omega, ?_⟩
 · rw [hcv]
   have e : pval (Hx.length + 2) (cv locs rows ++ [[.row false Hx.length 0 (lrows (AV.list t bs)).length, .int .i64 st]]) = .row false (Hx.length + 2) 0 ((cv locs rows).length + 1) := by
    simp [pval]
   rw [e]
   exact get_self (get_app (get_set (get_app (get_app h.o)) (by omega)))
 · rw [hcv]
   refine get_set ?_ (by omega)
   rw [List.getElem?_append_right (by simp)]
   simp [lrows]
 · intro j l r hl hrj
   by_cases hj : j < i
   · rw [List.getElem?_append_left (by rw [h.len]; exact hj)] at hl
     have := h.gt l (List.mem_of_getElem? hl)
     exact old _ _ (h.byt j l r hl hrj) (by omega) (by omega)
   · have hji : j = i := by
      have := (List.getElem?_eq_some_iff.1 hl).1
      simp [h.len] at this
      omega
     subst hji
     rw [List.getElem?_append_right (by rw [h.len]; omega)] at hl
     simp [h.len] at hl
     subst hl
     rw [hr] at hrj
     cases hrj
     have hne : L ≠ Hx.length := by
      rcases h.pgs with ⟨_, h2⟩ | ⟨_, h2⟩
      · omega
      · have := (List.getElem?_eq_some_iff.1 h2).1; omega
     refine get_set (get_app (get_set (get_app ?_) hne)) (by omega)
     simp [shOf1, lrows]
 · rw [List.nodup_append]
   refine ⟨h.nd, by simp, ?_⟩
   intro a ha b hb e
   simp at hb
   have := (h.gt a ha).2
   omega
 · intro l hl
   rw [hlen]
   rcases List.mem_append.1 hl with hl | hl
   · have := h.gt l hl
     omega
   · simp at hl
     subst hl
     omega
 · intro l o' ho'
   have hl := (List.getElem?_eq_some_iff.1 ho').1
   exact old _ _ (h.pre l o' ho') (by omega) (by omega)
theorem OInv.img {H : Hp} {n0 L : Nat} {last : Int} {tg : Tg} {rows : List (List AV)} {i : Nat} {Hx : Hp} {locs : List Nat} {o : VO} (h : OInv H n0 last tg rows i Hx L locs) (hi : rows.length ≤ i) (hne : rows ≠ []) (hp : ∀ r ∈ rows, PageIs r) : Img (Hx.set (n0 + 1) o) L locs (shOf rows) := by
 have hle := h.le
 have hgL := h.gL
 have hii : i = rows.length := by omega
 have hset : ∀ l o', Hx[l]? = some o' → l ≠ n0 + 1 → (Hx.set (n0 + 1) o)[l]? = some o' := fun l o' ho hne => get_set ho (by omega)
 have hcl := cv_length locs rows (by rw [h.len]; omega)
 have hcn : cv locs rows ≠ [] := by
  intro e
  rw [e, h.len, hii] at hcl
  simp at hcl
  exact hne (List.length_eq_zero_iff.1 hcl.symm)
 have hLL := hset L _ ((h.pgs.resolve_left (fun e => hcn e.1)).2) (by omega)
 have hsh : ∀ j s, (shOf rows)[j]? = some s → ∃ r, rows[j]? = some r ∧ shOf1 r = s := fun j s hs => by
  unfold shOf at hs
  rw [List.getElem?_map] at hs
  exact Option.map_eq_some_iff.1 hs
 have hlen2 : (cv locs rows).length = (shOf rows).length := by rw [hcl, h.len, hii]; simp [shOf]
 refine ⟨by simp [shOf, h.len, hii], fun r hr => ?_, ⟨_, hLL, hlen2, fun j l s hl hs => ?_⟩, fun j l s hl hs => ?_, h.nd, fun l hl => by have := (h.gt l hl).2.2; omega⟩
 · rw [hLL] at hr; cases hr; exact hlen2
 · obtain ⟨r, hr, rfl⟩ := hsh j s hs
   exact cv_done locs rows j l r hl hr (hp r (List.mem_of_getElem? hr))
 · obtain ⟨r, hr, rfl⟩ := hsh j s hs
   have := (h.gt l (List.mem_of_getElem? hl)).1
   exact hset l _ (h.byt j l r hl hr) (by omega)
set_option maxHeartbeats 16000000 in
theorem t17 (G : Glob) (H : Hp) (last : Int) (tg : Tg) (rows : List (List AV)) (hne : rows ≠ []) (hlen : rows.length ≤ 1000) (hp : ∀ r ∈ rows, PageIs r) : XS Tryz.prog G 56 [.agg [.int .i64 last, .list tg rows]] H (fun r H' => ∃ L locs, r = .agg [.int .i64 last, .row false L 0 rows.length] ∧ Img H' L locs (shOf rows) ∧ H.length ≤ L ∧ (∀ l ∈ locs, H.length ≤ l) ∧ ∀ (l : Nat) (o : VO), H[l]? = some o → H'[l]? = some o) := by
 refine xs_body (fun o => match o.dst with | some 32 => .shr | some 33 => .shr | _ => .iso) Tryz.func56 rfl ?_
 refine vc_norm (env' := (_ :: _ :: _ :: _ :: _ :: _ :: _ :: _ :: _ :: _ :: _ :: _ :: _ :: _ :: _ :: _ :: _ :: _ :: _ :: _ :: _ :: _ :: _ :: _ :: _ :: _ :: _ :: _ :: _ :: _ :: _ :: _ :: _ :: _ :: _ :: _ :: [])) (H' := _) rfl rfl ?_
 refine vs (wr ?_)
 refine w_opH (v := .ptr H.length 0 0) (env' := _) (H2 := H ++ [VO.arr 42 2 [[.int .i64 last, .list tg rows]]]) rfl (rfl) rfl (rfl) (fun _ h => h) (v36 rfl ?_)
 refine w_opH (v := .ptr (H.length + 1) 0 0) (env' := _) (H2 := H ++ [VO.arr 42 2 [[.int .i64 last, .list tg rows]]] ++ [VO.arr 42 2 [[.int .i64 0, .nils]]]) rfl (g_alloc z42 rfl (by simp)) rfl (rfl) (fun _ h => h) (v36 rfl ?_)
 refine we rfl (vs (wr ?_))
 refine wN (v := .ptr H.length 0 0) rfl rfl rfl (v36 rfl ?_)
 refine wN (v := .int .i64 last) rfl (g_load (rows := [[.int .i64 last, .list tg rows]]) (get_app get_last) rfl rfl) rfl (v36 rfl ?_)
 refine wN (v := .agg [_, _]) rfl rfl rfl (v36 rfl ?_)
 refine w_opH (v := .ptr (H.length + 2) 0 0) (env' := _) (H2 := H ++ [VO.arr 42 2 [[.int .i64 last, .list tg rows]]] ++ [VO.arr 42 2 [[.int .i64 0, .nils]]] ++ [VO.arr 42 2 [[.int .i64 0, .nils]]]) rfl (g_alloc z42 rfl (by simp)) rfl (rfl) (fun _ h => h) (v36 rfl ?_)
 refine w_op0N (H2 := (H ++ [VO.arr 42 2 [[.int .i64 last, .list tg rows]]] ++ [VO.arr 42 2 [[.int .i64 0, .nils]]] ++ [VO.arr 42 2 [[.int .i64 last, .nils]]])) rfl (g_store (show (H ++ [VO.arr 42 2 [[.int .i64 last, .list tg rows]]] ++ [VO.arr 42 2 [[.int .i64 0, .nils]]] ++ [VO.arr 42 2 [[.int .i64 0, .nils]]])[H.length + 2]? = some (VO.arr 42 2 [[.int .i64 0, .nils]]) by simp) rfl rfl sz42 ⟨rfl, by simp, by decide⟩) ((by simp [setC])) (fun _ h => h) ?_
 refine we rfl (vs (vs (wr ?_)))
 have hI0 : OInv H H.length last tg rows 0 (H ++ [VO.arr 42 2 [[.int .i64 last, .list tg rows]]] ++ [VO.arr 42 2 [[.int .i64 0, .nils]]] ++ [VO.arr 42 2 [[.int .i64 last, .nils]]]) (H.length + 5) [] := ⟨rfl, by omega, get_app (get_app get_last), get_app (by simp), by simp [pval, cv], .inl ⟨by simp [cv], by simp⟩, fun j l r h => by simp at h, List.nodup_nil, fun l h => by simp at h, by omega, fun l o h => get_app (get_app (get_app h))⟩
 generalize (H ++ [VO.arr 42 2 [[.int .i64 last, .list tg rows]]] ++ [VO.arr 42 2 [[.int .i64 0, .nils]]] ++ [VO.arr 42 2 [[.int .i64 last, .nils]]]) = H3 at hI0 ⊢
 refine wN rfl rfl rfl (v36 rfl ?_)
 refine we rfl (vc_block ?_)
 refine vc_loopX (α := { a : Nat × Hp × Nat × List Nat // OInv H H.length last tg rows a.1 a.2.1 a.2.2.1 a.2.2.2 }) (fun a => (rnone 4 ++ ([some (.int .i64 (a.1.1 : Nat)), none, none, none] ++ (rundef 27 ++ ([none]))))) (fun a => a.1.2.1) (fun a => rows.length - a.1.1) ⟨(0, H3, _, []), hI0⟩ (by repeat' first | exact trivial | refine ⟨.inr rfl, ?_⟩ | refine ⟨.inl rfl, ?_⟩ | fail) rfl ?_
 rintro ⟨⟨i, Hx, L, locs⟩, hI⟩ Y0 hY0
 refine vc_norm (env' := (_ :: _ :: _ :: _ :: (.int .i64 (i : Int)) :: _ :: _ :: _ :: _ :: _ :: _ :: _ :: _ :: _ :: _ :: _ :: _ :: _ :: _ :: _ :: _ :: _ :: _ :: _ :: _ :: _ :: _ :: _ :: _ :: _ :: _ :: _ :: _ :: _ :: _ :: _ :: [])) (H' := Hx) rfl rfl ?_
 replace hI : OInv H H.length last tg rows i Hx L locs := hI
 refine vs (vs (wr ?_))
 refine wN rfl rfl rfl (v36 rfl ?_)
 refine wN (v := .ptr H.length 0 1) rfl rfl rfl (v36 rfl ?_)
 refine wN (v := .list tg rows) rfl (g_load hI.c rfl rfl) rfl (v36 rfl ?_)
 first | refine wN rfl rfl rfl (v36 rfl ?_) | refine x_len rfl rfl ‹_› Tryz.underlying40 rfl (v36 rfl ?_)
 refine wN rfl rfl rfl (v36 rfl ?_)
 refine we rfl ?_
 refine vc_cond rfl (fun hc12 => ?_) (fun hc12 => ?_)
 ·
  have hlt : i < rows.length := by simpa using hc12
  have hri : rows[i]? = some rows[i] := List.getElem?_eq_getElem hlt
  obtain ⟨tb, bs, st, hx, hbs, hbl, hbb⟩ := hp _ (List.getElem_mem hlt)
  rw [hx] at hri
  refine vc_skip (n_then (vs (vc_block ?_)))
  refine w_regionW [(Hx ++ [VO.arr 5 1 bs]), (Hx ++ [VO.arr 5 1 bs] ++ [VO.arr 95 2 [[AV.row false Hx.length 0 bs.length, AV.int .i64 st]]]), ((Hx ++ [VO.arr 5 1 bs] ++ [VO.arr 95 2 [[AV.row false Hx.length 0 bs.length, AV.int .i64 st]]]).set L .dead ++ [VO.arr 95 2 (cv locs rows ++ [[AV.row false Hx.length 0 bs.length, AV.int .i64 st]])]), (oHeap Hx H.length L last bs st locs rows)] (by kernel_rfl) ?_
  have hcl := cv_length locs rows (by rw [hI.len]; exact hI.le)
  rw [hI.len] at hcl
  have hLne : L ≠ H.length + 2 := by have := hI.gL; omega
  have hsrc : srcRows (Hx ++ [VO.arr 5 1 bs] ++ [VO.arr 95 2 [[AV.row false Hx.length 0 bs.length, AV.int .i64 st]]]) (.row true (Hx.length + 1) 0 1) = some [[AV.row false Hx.length 0 bs.length, AV.int .i64 st]] := by simp [srcRows, rowsOf]
  have hacc : (cv locs rows = [] ∧ (Hx ++ [VO.arr 5 1 bs] ++ [VO.arr 95 2 [[AV.row false Hx.length 0 bs.length, AV.int .i64 st]]]).length ≤ L) ∨ (cv locs rows ≠ [] ∧ (Hx ++ [VO.arr 5 1 bs] ++ [VO.arr 95 2 [[AV.row false Hx.length 0 bs.length, AV.int .i64 st]]])[L]? = some (.arr 95 2 (cv locs rows))) := hI.pgs.imp (fun h => ⟨h.1, by simp; exact h.2⟩) (fun h => ⟨h.1, get_app (get_app h.2)⟩)
  refine e_op (v := .ptr (H.length + 2) 0 1) (env' := _) rfl (by decide) (show _ = (0, 2) by kernel_rfl) (by decide) (fun _ _ h => h) (fun q h1 h2 => rfl) rfl (w36 rfl ?_)
  refine e_op (v := pval L (cv locs rows)) (env' := _) rfl (by decide) (show _ = (0, 2) by kernel_rfl) (by decide) (fun _ _ h => h) (fun q h1 h2 => (match q, h1, h2 with | 0, _, _ => g_load hI.o rfl rfl | 1, _, _ => g_load (get_app hI.o) rfl rfl | 2, _, _ => g_load (get_app (get_app hI.o)) rfl rfl | q + 3, _, h2 => absurd h2 (by omega))) rfl (w36 rfl ?_)
  refine e_op (v := .list .tight []) (env' := _) rfl (by decide) (show _ = (0, 0) by kernel_rfl) (by decide) (fun _ _ h => h) (fun q h1 h2 => rfl) rfl (w36 rfl ?_)
  refine e_op (v := .ptr H.length 0 1) (env' := _) rfl (by decide) (show _ = (0, 0) by kernel_rfl) (by decide) (fun _ _ h => h) (fun q h1 h2 => rfl) rfl (w36 rfl ?_)
  refine e_op (v := .list tg rows) (env' := _) rfl (by decide) (show _ = (0, 0) by kernel_rfl) (by decide) (fun _ _ h => h) (fun q h1 h2 => (match q, h1, h2 with | 0, _, _ => g_load hI.c rfl rfl | q + 1, _, h2 => absurd h2 (by omega))) rfl (w36 rfl ?_)
  refine e_op (env' := _) rfl (by decide) (show _ = (0, 0) by kernel_rfl) (by decide) (fun _ _ h => h) (fun q h1 h2 => rfl) rfl (w36 rfl ?_)
  refine e_op (v := .iptr (tg == .bor) [.list tb bs, .int .i64 st]) (env' := _) rfl (by decide) (show _ = (0, 0) by kernel_rfl) (by decide) (fun _ _ h => h) (fun q h1 h2 => g_list el40 (by omega) hri rfl) rfl (w36 rfl ?_)
  refine e_op (v := .iptr _ [_, _]) (env' := _) rfl (by decide) (show _ = (0, 0) by kernel_rfl) (by decide) (fun _ _ h => h) (fun q h1 h2 => rfl) rfl (w36 rfl ?_)
  refine e_op (env' := _) rfl (by decide) (show _ = (0, 0) by kernel_rfl) (by decide) (fun _ _ h => h) (fun q h1 h2 => rfl) rfl (w36 rfl ?_)
  refine e_eff (H0 := Hx) (H1 := (Hx ++ [VO.arr 5 1 bs])) (v := .row false Hx.length 0 bs.length) (env' := _) rfl rfl (show _ = (0, 1) by kernel_rfl) rfl rfl (fun _ _ h => h) (g_clone (H := Hx) (x := .list tb bs) (rows := bs) (e := 5) el68 Tryz.underlying68 rfl zc5 by5 rfl rfl (by decide) (by decide) (bytes_len hbb) rfl hbs (bytes_frz hbb) (by omega)) rfl (w36 rfl ?_)
  refine e_op (v := .ptr H.length 0 1) (env' := _) rfl (by decide) (show _ = (0, 1) by kernel_rfl) (by decide) (fun _ _ h => h) (fun q h1 h2 => rfl) rfl (w36 rfl ?_)
  refine e_op (v := .list tg rows) (env' := _) rfl (by decide) (show _ = (0, 1) by kernel_rfl) (by decide) (fun _ _ h => h) (fun q h1 h2 => (match q, h1, h2 with | 0, _, _ => g_load hI.c rfl rfl | 1, _, _ => g_load (get_app hI.c) rfl rfl | q + 2, _, h2 => absurd h2 (by omega))) rfl (w36 rfl ?_)
  refine e_op (env' := _) rfl (by decide) (show _ = (0, 1) by kernel_rfl) (by decide) (fun _ _ h => h) (fun q h1 h2 => rfl) rfl (w36 rfl ?_)
  refine e_op (v := .iptr (tg == .bor) [.list tb bs, .int .i64 st]) (env' := _) rfl (by decide) (show _ = (0, 1) by kernel_rfl) (by decide) (fun _ _ h => h) (fun q h1 h2 => g_list el40 (by omega) hri rfl) rfl (w36 rfl ?_)
  refine e_op (v := .iptr _ [_]) (env' := _) rfl (by decide) (show _ = (0, 1) by kernel_rfl) (by decide) (fun _ _ h => h) (fun q h1 h2 => rfl) rfl (w36 rfl ?_)
  refine e_op (env' := _) rfl (by decide) (show _ = (0, 1) by kernel_rfl) (by decide) (fun _ _ h => h) (fun q h1 h2 => rfl) rfl (w36 rfl ?_)
  refine e_op (v := .agg [AV.row false Hx.length 0 bs.length, AV.int .i64 st]) (env' := _) rfl (by decide) (show _ = (1, 1) by kernel_rfl) (by decide) (fun _ _ h => h) (fun q h1 h2 => rfl) rfl (w36 rfl ?_)
  refine e_eff (H0 := (Hx ++ [VO.arr 5 1 bs])) (H1 := (Hx ++ [VO.arr 5 1 bs] ++ [VO.arr 95 2 [[AV.row false Hx.length 0 bs.length, AV.int .i64 st]]])) (v := .row true (Hx.length + 1) 0 1) (env' := _) rfl rfl (show _ = (1, 2) by kernel_rfl) rfl rfl (fun _ _ h => h) (g_build1 (H := (Hx ++ [VO.arr 5 1 bs])) (x := .agg [AV.row false Hx.length 0 bs.length, AV.int .i64 st]) (cs := [AV.row false Hx.length 0 bs.length, AV.int .i64 st]) el40 zc95 (by decide) rfl rfl (by simp)) rfl (w36 rfl ?_)
  refine e_eff (H0 := (Hx ++ [VO.arr 5 1 bs] ++ [VO.arr 95 2 [[AV.row false Hx.length 0 bs.length, AV.int .i64 st]]])) (H1 := ((Hx ++ [VO.arr 5 1 bs] ++ [VO.arr 95 2 [[AV.row false Hx.length 0 bs.length, AV.int .i64 st]]]).set L .dead ++ [VO.arr 95 2 (cv locs rows ++ [[AV.row false Hx.length 0 bs.length, AV.int .i64 st]])])) (v := .row false (Hx.length + 2) 0 ((cv locs rows).length + 1)) (env' := _) rfl rfl (show _ = (2, 3) by kernel_rfl) rfl rfl (fun _ _ h => h) (accR (n := Hx.length + 2) (H := (Hx ++ [VO.arr 5 1 bs] ++ [VO.arr 95 2 [[AV.row false Hx.length 0 bs.length, AV.int .i64 st]]])) (L := L) (pgs := cv locs rows) (news := [[AV.row false Hx.length 0 bs.length, AV.int .i64 st]]) (x := .row true (Hx.length + 1) 0 1) (e := 95) hacc (by simp) el40 Tryz.underlying40 rfl zc95 by95 hsrc rfl (by decide) (by decide) rfl rfl (by simp) (by have := hI.le; rw [hcl]; simp; omega)) rfl (w36 rfl ?_)
  refine e_op (v := .ptr (H.length + 2) 0 1) (env' := _) rfl (by decide) (show _ = (3, 3) by kernel_rfl) (by decide) (fun _ _ h => h) (fun q h1 h2 => rfl) rfl (w36 rfl ?_)
  refine e_eff0 (H0 := ((Hx ++ [VO.arr 5 1 bs] ++ [VO.arr 95 2 [[AV.row false Hx.length 0 bs.length, AV.int .i64 st]]]).set L .dead ++ [VO.arr 95 2 (cv locs rows ++ [[AV.row false Hx.length 0 bs.length, AV.int .i64 st]])])) (H1 := (oHeap Hx H.length L last bs st locs rows)) rfl rfl (show _ = (3, 4) by kernel_rfl) rfl rfl (fun _ _ h => h) (g_store (i := 0) (rows := [[.int .i64 last, pval L (cv locs rows)]]) (r := [.int .i64 last, pval L (cv locs rows)]) (k := 1) (x := .row false (Hx.length + 2) 0 ((cv locs rows).length + 1)) (cs := [.row false (Hx.length + 2) 0 ((cv locs rows).length + 1)]) (get_app (get_set (get_app (get_app hI.o)) hLne)) rfl rfl sz40 ⟨rfl, by simp, by decide⟩) ?_
  refine e_endB (H' := (oHeap Hx H.length L last bs st locs rows)) rfl ?_
  refine n_then (wr ?_)
  iterate 3 refine wN rfl rfl rfl (v36 rfl ?_)
  refine we rfl ?_
  refine hY0 ⟨(i + 1, _, _, _), hI.next rfl hri⟩ (by simp only; omega) _ _ ?_ rfl
  repeat' first | exact trivial | refine ⟨.inr rfl, ?_⟩ | refine ⟨.inl rfl, ?_⟩ | refine ⟨.inl ?_, ?_⟩ | fail
  all_goals first | exact (int_succ (by omega)).symm
 ·
  have hge : ¬ i < rows.length := by simpa using hc12
  have hcl := cv_length locs rows (by rw [hI.len]; exact hI.le)
  have hlen2 : (cv locs rows).length = rows.length := by rw [hcl, hI.len]; have := hI.le; omega
  have hpv : pval L (cv locs rows) = .row false L 0 rows.length := by
   have : cv locs rows ≠ [] := fun e => hne (List.length_eq_zero_iff.1 (by rw [← hlen2, e]; rfl))
   simp only [pval, if_neg this, hlen2]
  refine vc_exit (x_then (x_then (x_same (n_then (vs (wr ?_))))))
  refine wN (v := .agg [.int .i64 last, pval L (cv locs rows)]) rfl (g_load hI.o rfl rfl) rfl (v36 rfl ?_)
  refine w_op0N (H2 := _) rfl (g_store hI.r rfl rfl sz42 ⟨rfl, by simp, by decide⟩) (rfl) (fun _ h => h) ?_
  refine we rfl (vc_ret ?_)
  refine r_fn (vres_cell rfl rfl (g_vload (get_self hI.r) rfl rfl)) ?_
  refine ⟨L, locs, by rw [← hpv]; rfl, hI.img (by omega) hne hp, by have := hI.gL; omega, fun l hl => by have := (hI.gt l hl).1; omega, fun l o h => ?_⟩
  exact get_set (hI.pre l o h) (by have := (List.getElem?_eq_some_iff.1 h).1; omega)
end Lay
end Go.Vi
namespace Go.Vi
namespace Lay
open Go Go.Vi Go.Proofs
abbrev Sheet := List (List AV) × Int
def lay (b : List (List AV)) (a : Nat) (src : List (List AV)) : List (List AV) := b.take a ++ src ++ b.drop (a + src.length)
theorem lay_length {b src : List (List AV)} {a : Nat} (h : a + src.length ≤ b.length) : (lay b a src).length = b.length := by
 simp [lay]; omega
def Bs (b : List (List AV)) : Prop := ∀ q ∈ b, ∃ v, q = [.int .u8 v]
theorem lay_bs {b src : List (List AV)} {a : Nat} (h1 : Bs b) (h2 : Bs src) : Bs (lay b a src) := by
 intro q hq
 simp only [lay, List.mem_append] at hq
 rcases hq with (hq | hq) | hq
 · exact h1 q (List.mem_of_mem_take hq)
 · exact h2 q hq
 · exact h1 q (List.mem_of_mem_drop hq)
def updS (sh : List Sheet) (i : Nat) (f : Sheet → Sheet) : List Sheet := match sh[i]? with
 | some s => sh.set i (f s)
 | none => sh
theorem updS_at {sh : List Sheet} {i : Nat} {f : Sheet → Sheet} {s : Sheet} (h : sh[i]? = some s) : updS sh i f = sh.set i (f s) := by simp [updS, h]
theorem updS_length {sh : List Sheet} {i : Nat} {f : Sheet → Sheet} : (updS sh i f).length = sh.length := by
 unfold updS; split <;> simp
def layP (sh : List Sheet) (r : List AV) : List Sheet := updS sh (pPg r).toNat fun s => (lay s.1 (pAt r).toNat (pBy r), s.2)
def stampP (sh : List Sheet) (p : List AV × List AV) : List Sheet := updS sh (pPg p.1).toNat fun s => (s.1, pPg p.2)
def ShOk (sh : List Sheet) : Prop := ∀ s ∈ sh, s.1.length = 128 ∧ Bs s.1
theorem ShOk.upd {sh : List Sheet} {i : Nat} {f : Sheet → Sheet} (h : ShOk sh) (hf : ∀ s, s.1.length = 128 → Bs s.1 → (f s).1.length = 128 ∧ Bs (f s).1) : ShOk (updS sh i f) := by
 unfold updS
 split
 · rename_i s hs
   intro s' hs'
   rcases List.mem_or_eq_of_mem_set hs' with h1 | rfl
   · exact h s' h1
   · obtain ⟨a, b⟩ := h s (List.mem_of_getElem? hs)
     exact hf s a b
 · exact h
theorem okP_in {r : List AV} (h : okP r = true) : 0 ≤ pPg r ∧ pPg r < 120 ∧ 0 ≤ pAt r ∧ pAt r < 128 ∧ 1 ≤ (pBy r).length ∧ ((pBy r).length : Int) ≤ 128 - pAt r := by
 simp only [okP, Bool.not_eq_true', Bool.or_eq_false_iff, decide_eq_false_iff_not] at h
 omega
theorem ShOk.lay {sh : List Sheet} {r : List AV} (h : ShOk sh) (hk : okP r = true) (hv : Bs (pBy r)) : ShOk (layP sh r) := by
 have := okP_in hk
 refine h.upd fun s h1 h2 => ⟨?_, lay_bs h2 hv⟩
 show (Lay.lay s.1 _ _).length = 128
 rw [lay_length (by omega)]; exact h1
theorem ShOk.stamp {sh : List Sheet} {p : List AV × List AV} (h : ShOk sh) : ShOk (stampP sh p) := h.upd fun s h1 h2 => ⟨h1, h2⟩
def shRows (sh : List Sheet) : List (List AV) := sh.map fun s => [.list .loose s.1, .int .i64 s.2]
def errR (e : Int) : AV := .tup [.agg [.int .i64 0, .nils], .int .i64 e]
def okR (last : Int) (sh : List Sheet) : AV := .tup [.agg [.int .i64 last, .list .loose (shRows sh)], .int .i64 0]
structure WInv (base : Hp) (Hx : Hp) (q L : Nat) (locs : List Nat) (last0 : Int) (n : Nat) (sh : List Sheet) : Prop where
 img : Img Hx L locs sh
 o : Hx[q]? = some (.arr 42 2 [[.int .i64 last0, .row false L 0 n]])
 low : ∀ (k : Nat) (o : VO), base[k]? = some o → Hx[k]? = some o
 n : sh.length = n
 lq : base.length ≤ q
 lL : base.length ≤ L
 ll : ∀ l ∈ locs, base.length ≤ l
 qL : q ≠ L
 ql : ∀ l ∈ locs, l ≠ q
theorem Img.app {H : Hp} {L : Nat} {locs : List Nat} {sh : List Sheet} {g : Hp} (h : Img H L locs sh) : Img (H ++ g) L locs sh := by
 obtain ⟨rows, h1, h2, h3⟩ := h.row
 exact ⟨h.len, fun r hr => by rw [get_app h1] at hr; cases hr; exact h2, ⟨rows, get_app h1, h2, h3⟩, fun i l s hl hs => get_app (h.byt i l s hl hs), h.nd, h.ne⟩
theorem Img.other {H : Hp} {L k : Nat} {locs : List Nat} {sh : List Sheet} {o : VO} (h : Img H L locs sh) (h1 : k ≠ L) (h2 : k ∉ locs) : Img (H.set k o) L locs sh := by
 obtain ⟨rows, e1, e2, e3⟩ := h.row
 have g1 : (H.set k o)[L]? = some (.arr 95 2 rows) := get_set e1 h1
 exact ⟨h.len, fun r hr => by rw [g1] at hr; cases hr; exact e2, ⟨rows, g1, e2, e3⟩, fun i l s hl hs => get_set (h.byt i l s hl hs) (fun e => h2 (by rw [e]; exact List.mem_of_getElem? hl)), h.nd, h.ne⟩
theorem Img.byte {H : Hp} {L i l : Nat} {locs : List Nat} {sh : List Sheet} {s : Sheet} {b : List (List AV)} (h : Img H L locs sh) (hl : locs[i]? = some l) (hs : sh[i]? = some s) (hb : b.length = s.1.length) : Img (H.set l (.arr 5 1 b)) L locs (sh.set i (b, s.2)) := by
 obtain ⟨rows, e1, e2, e3⟩ := h.row
 have hlL := h.ne l (List.mem_of_getElem? hl)
 have g1 : (H.set l (.arr 5 1 b))[L]? = some (.arr 95 2 rows) := get_set e1 hlL
 have hi := (List.getElem?_eq_some_iff.1 hs).1
 have at' : ∀ (j : Nat) (s' : Sheet), (sh.set i (b, s.2))[j]? = some s' → (j = i ∧ s' = (b, s.2)) ∨ (j ≠ i ∧ sh[j]? = some s') := fun j s' hj => by
  by_cases hji : j = i
  · subst hji
    rw [List.getElem?_set_self hi] at hj
    cases hj; exact .inl ⟨rfl, rfl⟩
  · rw [List.getElem?_set_ne (Ne.symm hji)] at hj
    exact .inr ⟨hji, hj⟩
 refine ⟨by simp [h.len], fun r hr => by rw [g1] at hr; cases hr; simp [e2], ⟨rows, g1, by simp [e2], fun j l' s' hl' hs' => ?_⟩, fun j l' s' hl' hs' => ?_, h.nd, h.ne⟩
 · rcases at' j s' hs' with ⟨rfl, rfl⟩ | ⟨hne, hs'⟩
   · rw [e3 j l' s hl' hs]
     simp [hb]
   · exact e3 j l' s' hl' hs'
 · rcases at' j s' hs' with ⟨rfl, rfl⟩ | ⟨hne, hs'⟩
   · rw [hl] at hl'; cases hl'
     exact get_self (h.byt j l s hl hs)
   · refine get_set (h.byt j l' s' hl' hs') fun e => hne ?_
     subst e
     obtain ⟨a1, a2⟩ := List.getElem?_eq_some_iff.1 hl
     obtain ⟨b1, b2⟩ := List.getElem?_eq_some_iff.1 hl'
     exact (List.getElem_inj h.nd).1 (b2.trans a2.symm)
theorem Img.stamp {H : Hp} {L i l : Nat} {locs : List Nat} {sh : List Sheet} {s : Sheet} {k : Int} {rows : List (List AV)} (h : Img H L locs sh) (hr : H[L]? = some (.arr 95 2 rows)) (hl : locs[i]? = some l) (hs : sh[i]? = some s) : Img (H.set L (.arr 95 2 (rows.set i [.row false l 0 s.1.length, .int .i64 k]))) L locs (sh.set i (s.1, k)) := by
 obtain ⟨rows', e1, e2, e3⟩ := h.row
 rw [hr] at e1
 cases e1
 have hi := (List.getElem?_eq_some_iff.1 hs).1
 have g1 := get_self (o' := VO.arr 95 2 (rows.set i [.row false l 0 s.1.length, .int .i64 k])) hr
 have at' : ∀ (j : Nat) (s' : Sheet), (sh.set i (s.1, k))[j]? = some s' → (j = i ∧ s' = (s.1, k)) ∨ (j ≠ i ∧ sh[j]? = some s') := fun j s' hj => by
  by_cases hji : j = i
  · subst hji
    rw [List.getElem?_set_self hi] at hj
    cases hj; exact .inl ⟨rfl, rfl⟩
  · rw [List.getElem?_set_ne (Ne.symm hji)] at hj
    exact .inr ⟨hji, hj⟩
 refine ⟨by simp [h.len], fun r hr' => by rw [g1] at hr'; cases hr'; simp [e2], ⟨_, g1, by simp [e2], fun j l' s' hl' hs' => ?_⟩, fun j l' s' hl' hs' => ?_, h.nd, h.ne⟩
 · rcases at' j s' hs' with ⟨rfl, rfl⟩ | ⟨hne, hs'⟩
   · rw [hl] at hl'; cases hl'
     rw [List.getElem?_set_self (by omega)]
   · rw [List.getElem?_set_ne (Ne.symm hne)]
     exact e3 j l' s' hl' hs'
 · have hlL : L ≠ l' := fun e => h.ne l' (List.mem_of_getElem? hl') e.symm
   rcases at' j s' hs' with ⟨rfl, rfl⟩ | ⟨hne, hs'⟩
   · exact get_set (h.byt j l' s hl' hs) hlL
   · exact get_set (h.byt j l' s' hl' hs') hlL
section
variable {base Hx : Hp} {q L n : Nat} {locs : List Nat} {last0 : Int} {sh : List Sheet}
theorem WInv.app {g : Hp} (h : WInv base Hx q L locs last0 n sh) : WInv base (Hx ++ g) q L locs last0 n sh :=
 ⟨h.img.app, get_app h.o, fun k o hk => get_app (h.low k o hk), h.n, h.lq, h.lL, h.ll, h.qL, h.ql⟩
theorem WInv.byte {i l : Nat} {s : Sheet} {b : List (List AV)} (h : WInv base Hx q L locs last0 n sh) (hl : locs[i]? = some l) (hs : sh[i]? = some s) (hb : b.length = s.1.length) : WInv base (Hx.set l (.arr 5 1 b)) q L locs last0 n (sh.set i (b, s.2)) := by
 have hm := List.mem_of_getElem? hl
 exact ⟨h.img.byte hl hs hb, get_set h.o (h.ql l hm), fun k o hk => get_set (h.low k o hk) (by have := (List.getElem?_eq_some_iff.1 hk).1; have := h.ll l hm; omega), by simp [h.n], h.lq, h.lL, h.ll, h.qL, h.ql⟩
theorem WInv.stamp {i l : Nat} {s : Sheet} {k : Int} {rows : List (List AV)} (h : WInv base Hx q L locs last0 n sh) (hr : Hx[L]? = some (.arr 95 2 rows)) (hl : locs[i]? = some l) (hs : sh[i]? = some s) : WInv base (Hx.set L (.arr 95 2 (rows.set i [.row false l 0 s.1.length, .int .i64 k]))) q L locs last0 n (sh.set i (s.1, k)) :=
 ⟨h.img.stamp hr hl hs, get_set h.o (Ne.symm h.qL), fun k o hk => get_set (h.low k o hk) (by have := (List.getElem?_eq_some_iff.1 hk).1; have := h.lL; omega), by simp [h.n], h.lq, h.lL, h.ll, h.qL, h.ql⟩
theorem WInv.at {i : Nat} (h : WInv base Hx q L locs last0 n sh) (hi : i < n) : ∃ l s rows, locs[i]? = some l ∧ sh[i]? = some s ∧ Hx[L]? = some (.arr 95 2 rows) ∧ rows[i]? = some [.row false l 0 s.1.length, .int .i64 s.2] ∧ Hx[l]? = some (.arr 5 1 s.1) := by
 have hn := h.n
 have hlen := h.img.len
 obtain ⟨rows, e1, e2, e3⟩ := h.img.row
 have hl : locs[i]? = some locs[i] := List.getElem?_eq_getElem (by omega)
 have hs : sh[i]? = some sh[i] := List.getElem?_eq_getElem (by omega)
 exact ⟨_, _, rows, hl, hs, e1, e3 i _ _ hl hs, h.img.byt i _ _ hl hs⟩
end
theorem retD_row {d : Nat} {H : Hp} {l n : Nat} {b : Bool} {T : TypeId} {sz : Nat} {rows out : List (List AV)} (h : H[l]? = some (.arr T sz rows)) (hn : rows.length = n) (hr : mapL (mapL (retD d H)) rows = some out) : retD (d + 1) H (.row b l 0 n) = some (.list .loose out) := by
 subst hn
 have hro : rowsOf H (.row b l 0 rows.length) = some rows := by simp [rowsOf, h]
 show (match rowsOf H (.row b l 0 rows.length) with
  | some rows => (mapL (mapL (retD d H)) rows).map (AV.list .loose)
  | none => none) = _
 rw [hro]
 show (mapL (mapL (retD d H)) rows).map (AV.list .loose) = _
 rw [hr]
 rfl
theorem mapL_get2 {α β : Type} {f : α → Option β} : ∀ {xs : List α} {ys : List β}, xs.length = ys.length → (∀ (i : Nat) (x : α) (y : β), xs[i]? = some x → ys[i]? = some y → f x = some y) → mapL f xs = some ys
 | [], [], _, _ => rfl
 | x :: xs, y :: ys, hl, h => mapL_cons (h 0 x y rfl rfl) (mapL_get2 (by simpa using hl) fun i x y hx hy => h (i + 1) x y (by simpa using hx) (by simpa using hy))
theorem Img.ret {H : Hp} {L n : Nat} {locs : List Nat} {sh : List Sheet} (h : Img H L locs sh) (hn : sh.length = n) (hv : ShOk sh) : ret0 H (.row false L 0 n) = some (.list .loose (shRows sh)) := by
 obtain ⟨rows, e1, e2, e3⟩ := h.row
 refine retD_row e1 (by omega) (mapL_get2 (by simp [shRows, e2]) fun i r y hr hy => ?_)
 have hi : i < sh.length := by have := (List.getElem?_eq_some_iff.1 hr).1; omega
 have hi' : i < locs.length := by have := h.len; omega
 have hl : locs[i]? = some locs[i] := List.getElem?_eq_getElem hi'
 have hs : sh[i]? = some sh[i] := List.getElem?_eq_getElem hi
 have hrow := e3 i _ _ hl hs
 rw [hr] at hrow
 cases hrow
 have hy' : y = [.list .loose (sh[i]).1, .int .i64 (sh[i]).2] := by
  simp only [shRows] at hy
  rw [List.getElem?_map, hs] at hy
  cases hy; rfl
 subst hy'
 have hval := bytes_val (hv _ (List.mem_of_getElem? hs)).2
 refine mapL_cons (retD_row (h.byt i _ _ hl hs) rfl (mapL_id fun r hr => mapL_id fun x hx => retD_val (List.all_eq_true.1 (List.all_eq_true.1 hval r hr) x hx))) rfl
theorem valid_pages {last : Int} {rows : List (List AV)} (hv : validB last rows = true) (hp : ∀ r ∈ rows, PageOk r) : rows.length = 120 ∧ rows ≠ [] ∧ (∀ r ∈ rows, PageIs r) ∧ ShOk (shOf rows) := by
 simp only [validB, Bool.and_eq_true, decide_eq_true_eq, Bool.not_eq_true', List.any_eq_false] at hv
 obtain ⟨⟨⟨h1, h2⟩, h3⟩, h4⟩ := hv
 have h128 : ∀ b st, [b, AV.int .i64 st] ∈ rows → (lrows b).length = 128 := fun b st hr => by
  have := h4 _ hr
  simp only [badS, Bool.not_eq_true, Bool.or_eq_false_iff, bne_eq_false_iff_eq] at this
  omega
 refine ⟨by omega, fun e => by rw [e] at h3; simp at h3, fun r hr => ?_, fun s hs => ?_⟩
 · obtain ⟨b, st, rfl, hL, hb1, hb2⟩ := hp r hr
   have := h128 b st hr
   rcases hL with rfl | ⟨t, bs, rfl⟩
   · simp [lrows] at this
   · simp only [lrows] at this hb2
     exact ⟨t, bs, st, rfl, fun e => by rw [e] at this; simp at this, by omega, hb2⟩
 · obtain ⟨r, hr, rfl⟩ := List.mem_map.1 hs
   obtain ⟨b, st, rfl, hL, hb1, hb2⟩ := hp r hr
   exact ⟨h128 b st hr, hb2⟩
section
variable {P : Program} {H : Hp}
theorem g_slice0 {t T e : TypeId} {b : Bool} {l m sz : Nat} {rows : List (List AV)} {n : Int} (hu : P.underlying t = some (.slice e)) (hs : szOf P e = some sz) (h1 : H[l]? = some (.arr T sz rows)) (h0 : 0 ≤ n) (hn : n ≤ m) :
 (vslice P H t (.row b l 0 m) (some (.int .i64 n)) none none).map (·, H) = some (.row b l n.toNat (m - n.toNat), H) := by
 rw [g_slice hu hs h1 h0 hn, Nat.zero_add]
theorem g_copyL {t T e : TypeId} {b : Bool} {l i m sz : Nat} {rows rows' : List (List AV)} {x : AV} (he : elemAt P t = some (none, e, sz)) (h1 : H[l]? = some (.arr T sz rows)) (hx : srcRows H x = some rows') (hl : lenOk sz rows' = true) (h0 : sz ≠ 0) (hs : x.isStr = false) (hin : i + m ≤ rows.length) (hm : rows'.length ≤ m) :
 vcopy P H t (.row b l i m) x = some (.int .i64 (rows'.length : Nat), H.set l (.arr T sz (lay rows i rows'))) := by
 rw [g_copy he h1 hx hl h0 hs hin, Nat.min_eq_left hm, List.take_length]
 rfl
end
theorem _root_.Go.Vi.IsL.notStr {x : AV} (h : IsL x) : x.isStr = false := by
 rcases h with rfl | ⟨t, rows, rfl⟩ <;> rfl
end Lay
end Go.Vi
namespace Go.Vi
open Go Go.Vi Go.Proofs
attribute [local irreducible] vops vopsD vc
namespace Lay
structure Inv2 (l : List (List AV)) (i : Nat) (pgs : List (List AV)) : Prop where
 inv : Inv l i pgs
 zero : i = 0 → pgs = []
 last : 0 < i → ∃ q, l[i - 1]? = some q ∧ pgs ≠ [] ∧ pgs[pgs.length - 1]? = some [.int .i64 (pPg q)]
theorem Inv2.new {l : List (List AV)} {i : Nat} {pgs : List (List AV)} {r : List AV} (hI : Inv2 l i pgs) (hr : l[i]? = some r) (hk : okP r = true) (hn : i = 0 ∨ ∃ q, l[i - 1]? = some q ∧ pPg r > pPg q) : Inv2 l (i + 1) (pgs ++ [[.int .i64 (pPg r)]]) :=
 ⟨scan_new hI.inv hr hk hn, fun h => by omega, fun _ => ⟨r, by simpa using hr, by simp, by simp⟩⟩
theorem Inv2.same {l : List (List AV)} {i : Nat} {pgs : List (List AV)} {r q : List AV} (hI : Inv2 l i pgs) (hr : l[i]? = some r) (hk : okP r = true) (h0 : 0 < i) (hq : l[i - 1]? = some q) (he : pPg r = pPg q) (h2 : ¬ pAt r ≤ pAt q + (pBy q).length) : Inv2 l (i + 1) pgs := by
 obtain ⟨q', h3, h4, h5⟩ := hI.last h0
 rw [hq] at h3
 cases h3
 exact ⟨scan_same hI.inv hr hk h0 hq (by omega) (by omega), fun h => by omega, fun _ => ⟨r, by simpa using hr, h4, by rw [he]; exact h5⟩⟩
def layK (sh : List Sheet) (pg a : Int) (src : List (List AV)) (k : Nat) : List Sheet := updS sh pg.toNat fun s => (lay s.1 a.toNat (src.take k), s.2)
theorem lay_zero {b : List (List AV)} {a : Nat} : lay b a [] = b := by simp [lay]
theorem layK_zero {sh : List Sheet} {pg a : Int} {src : List (List AV)} : layK sh pg a src 0 = sh := by
 unfold layK updS
 split
 · rename_i s hs
   obtain ⟨h1, h2⟩ := List.getElem?_eq_some_iff.1 hs
   rw [List.take_zero]
   show sh.set pg.toNat (lay s.1 a.toNat [], s.2) = sh
   rw [lay_zero, ← h2]
   exact List.set_getElem_self h1
 · rfl
theorem lay_get {b src : List (List AV)} {a j : Nat} (h : a + src.length ≤ b.length) : (lay b a src)[j]? = if j < a then b[j]? else if j < a + src.length then src[j - a]? else b[j]? := by
 have h3 : (b.take a).length = a := by simp; omega
 simp only [lay, List.append_assoc]
 by_cases hj : j < a
 · rw [if_pos hj, List.getElem?_append_left (by omega), List.getElem?_take, if_pos hj]
 · rw [if_neg hj, List.getElem?_append_right (by omega), h3]
   by_cases hk : j < a + src.length
   · rw [if_pos hk, List.getElem?_append_left (by omega)]
   · rw [if_neg hk, List.getElem?_append_right (by omega), List.getElem?_drop]
     congr 1
     omega
theorem lay_next {b src : List (List AV)} {a k : Nat} {x : List AV} (hx : src[k]? = some x) (h : a + src.length ≤ b.length) : lay b a (src.take (k + 1)) = (lay b a (src.take k)).set (a + k) x := by
 have hk := (List.getElem?_eq_some_iff.1 hx).1
 have h1 : (src.take k).length = k := by simp; omega
 have h2 : (src.take (k + 1)).length = k + 1 := by simp; omega
 have hl : (lay b a (src.take k)).length = b.length := lay_length (by omega)
 apply List.ext_getElem?
 intro j
 rw [List.getElem?_set, lay_get (by omega), lay_get (by omega), h1, h2, hl, List.getElem?_take, List.getElem?_take]
 by_cases hj : j < a
 · rw [if_pos hj, if_neg (by omega), if_pos hj]
 · rw [if_neg hj]
   by_cases he : a + k = j
   · subst he
     rw [if_pos (by omega), if_pos (by omega), if_pos rfl, if_pos (by omega), show a + k - a = k by omega, hx]
   · rw [if_neg he, if_neg hj]
     by_cases hjk : j < a + k
     · rw [if_pos (by omega), if_pos (by omega), if_pos hjk, if_pos (by omega)]
     · rw [if_neg (by omega), if_neg hjk]
theorem layK_at {sh : List Sheet} {pg a : Int} {src : List (List AV)} {k : Nat} {s : Sheet} (h : sh[pg.toNat]? = some s) : (layK sh pg a src k)[pg.toNat]? = some (lay s.1 a.toNat (src.take k), s.2) := by
 unfold layK
 rw [updS_at h, List.getElem?_set_self (List.getElem?_eq_some_iff.1 h).1]
theorem WInv.byteStep {base Hx : Hp} {q L n : Nat} {locs : List Nat} {last0 : Int} {sh : List Sheet} {l k : Nat} {s : Sheet} {pg a : Int} {src : List (List AV)} {x : List AV} (h : WInv base Hx q L locs last0 n (layK sh pg a src k)) (hs : sh[pg.toNat]? = some s) (hl : locs[pg.toNat]? = some l) (hx : src[k]? = some x) (hb : a.toNat + src.length ≤ s.1.length) :
 WInv base (Hx.set l (.arr 5 1 ((lay s.1 a.toNat (src.take k)).set (a.toNat + k) x))) q L locs last0 n (layK sh pg a src (k + 1)) := by
 have e : layK sh pg a src (k + 1) = (layK sh pg a src k).set pg.toNat ((lay s.1 a.toNat (src.take k)).set (a.toNat + k) x, s.2) := by
  rw [← lay_next hx hb]
  unfold layK
  rw [updS_at hs, updS_at hs, List.set_set]
 rw [e]
 exact h.byte (s := (lay s.1 a.toNat (src.take k), s.2)) hl (layK_at hs) (by simp)
end Lay
end Go.Vi
namespace Go.Vi
open Go Go.Vi Go.Proofs
attribute [local irreducible] vops vopsD vc
namespace Lay
structure BImg (H : Hp) (L : Nat) (locs : List Nat) (sh : List (List (List AV) × Int)) : Prop where
 len : locs.length = sh.length
 pg : ∀ rows : List (List AV), H[L]? = some (.arr 95 2 rows) → rows.length = sh.length
 row : ∃ rows : List (List AV), H[L]? = some (.arr 95 2 rows) ∧ rows.length = sh.length ∧ ∀ (i l : Nat) (s : List (List AV) × Int), locs[i]? = some l → sh[i]? = some s → rows[i]? = some [.row true l 0 s.1.length, .int .i64 s.2]
 byt : ∀ (i l : Nat) (s : List (List AV) × Int), locs[i]? = some l → sh[i]? = some s → H[l]? = some (.arr 5 1 s.1)
 nd : locs.Nodup
 ne : ∀ l ∈ locs, l ≠ L
theorem BImg.app {H : Hp} {L : Nat} {locs : List Nat} {sh : List Sheet} {g : Hp} (h : BImg H L locs sh) : BImg (H ++ g) L locs sh := by
 obtain ⟨rows, h1, h2, h3⟩ := h.row
 exact ⟨h.len, fun r hr => by rw [get_app h1] at hr; cases hr; exact h2, ⟨rows, get_app h1, h2, h3⟩, fun i l s hl hs => get_app (h.byt i l s hl hs), h.nd, h.ne⟩
theorem BImg.other {H : Hp} {L k : Nat} {locs : List Nat} {sh : List Sheet} {o : VO} (h : BImg H L locs sh) (h1 : k ≠ L) (h2 : k ∉ locs) : BImg (H.set k o) L locs sh := by
 obtain ⟨rows, e1, e2, e3⟩ := h.row
 have g1 : (H.set k o)[L]? = some (.arr 95 2 rows) := get_set e1 h1
 exact ⟨h.len, fun r hr => by rw [g1] at hr; cases hr; exact e2, ⟨rows, g1, e2, e3⟩, fun i l s hl hs => get_set (h.byt i l s hl hs) (fun e => h2 (by rw [e]; exact List.mem_of_getElem? hl)), h.nd, h.ne⟩
theorem BImg.byte {H : Hp} {L i l : Nat} {locs : List Nat} {sh : List Sheet} {s : Sheet} {b : List (List AV)} (h : BImg H L locs sh) (hl : locs[i]? = some l) (hs : sh[i]? = some s) (hb : b.length = s.1.length) : BImg (H.set l (.arr 5 1 b)) L locs (sh.set i (b, s.2)) := by
 obtain ⟨rows, e1, e2, e3⟩ := h.row
 have hlL := h.ne l (List.mem_of_getElem? hl)
 have g1 : (H.set l (.arr 5 1 b))[L]? = some (.arr 95 2 rows) := get_set e1 hlL
 have hi := (List.getElem?_eq_some_iff.1 hs).1
 have at' : ∀ (j : Nat) (s' : Sheet), (sh.set i (b, s.2))[j]? = some s' → (j = i ∧ s' = (b, s.2)) ∨ (j ≠ i ∧ sh[j]? = some s') := fun j s' hj => by
  by_cases hji : j = i
  · subst hji
    rw [List.getElem?_set_self hi] at hj
    cases hj; exact .inl ⟨rfl, rfl⟩
  · rw [List.getElem?_set_ne (Ne.symm hji)] at hj
    exact .inr ⟨hji, hj⟩
 refine ⟨by simp [h.len], fun r hr => by rw [g1] at hr; cases hr; simp [e2], ⟨rows, g1, by simp [e2], fun j l' s' hl' hs' => ?_⟩, fun j l' s' hl' hs' => ?_, h.nd, h.ne⟩
 · rcases at' j s' hs' with ⟨rfl, rfl⟩ | ⟨hne, hs'⟩
   · rw [e3 j l' s hl' hs]
     simp [hb]
   · exact e3 j l' s' hl' hs'
 · rcases at' j s' hs' with ⟨rfl, rfl⟩ | ⟨hne, hs'⟩
   · rw [hl] at hl'; cases hl'
     exact get_self (h.byt j l s hl hs)
   · refine get_set (h.byt j l' s' hl' hs') fun e => hne ?_
     subst e
     obtain ⟨a1, a2⟩ := List.getElem?_eq_some_iff.1 hl
     obtain ⟨b1, b2⟩ := List.getElem?_eq_some_iff.1 hl'
     exact (List.getElem_inj h.nd).1 (b2.trans a2.symm)
theorem BImg.stamp {H : Hp} {L i l : Nat} {locs : List Nat} {sh : List Sheet} {s : Sheet} {k : Int} {rows : List (List AV)} (h : BImg H L locs sh) (hr : H[L]? = some (.arr 95 2 rows)) (hl : locs[i]? = some l) (hs : sh[i]? = some s) : BImg (H.set L (.arr 95 2 (rows.set i [.row true l 0 s.1.length, .int .i64 k]))) L locs (sh.set i (s.1, k)) := by
 obtain ⟨rows', e1, e2, e3⟩ := h.row
 rw [hr] at e1
 cases e1
 have hi := (List.getElem?_eq_some_iff.1 hs).1
 have g1 := get_self (o' := VO.arr 95 2 (rows.set i [.row true l 0 s.1.length, .int .i64 k])) hr
 have at' : ∀ (j : Nat) (s' : Sheet), (sh.set i (s.1, k))[j]? = some s' → (j = i ∧ s' = (s.1, k)) ∨ (j ≠ i ∧ sh[j]? = some s') := fun j s' hj => by
  by_cases hji : j = i
  · subst hji
    rw [List.getElem?_set_self hi] at hj
    cases hj; exact .inl ⟨rfl, rfl⟩
  · rw [List.getElem?_set_ne (Ne.symm hji)] at hj
    exact .inr ⟨hji, hj⟩
 refine ⟨by simp [h.len], fun r hr' => by rw [g1] at hr'; cases hr'; simp [e2], ⟨_, g1, by simp [e2], fun j l' s' hl' hs' => ?_⟩, fun j l' s' hl' hs' => ?_, h.nd, h.ne⟩
 · rcases at' j s' hs' with ⟨rfl, rfl⟩ | ⟨hne, hs'⟩
   · rw [hl] at hl'; cases hl'
     rw [List.getElem?_set_self (by omega)]
   · rw [List.getElem?_set_ne (Ne.symm hne)]
     exact e3 j l' s' hl' hs'
 · have hlL : L ≠ l' := fun e => h.ne l' (List.mem_of_getElem? hl') e.symm
   rcases at' j s' hs' with ⟨rfl, rfl⟩ | ⟨hne, hs'⟩
   · exact get_set (h.byt j l' s hl' hs) hlL
   · exact get_set (h.byt j l' s' hl' hs') hlL
theorem BImg.ret {H : Hp} {L n : Nat} {locs : List Nat} {sh : List Sheet} (h : BImg H L locs sh) (hn : sh.length = n) (hv : ShOk sh) : ret0 H (.row false L 0 n) = some (.list .loose (shRows sh)) := by
 obtain ⟨rows, e1, e2, e3⟩ := h.row
 refine retD_row e1 (by omega) (mapL_get2 (by simp [shRows, e2]) fun i r y hr hy => ?_)
 have hi : i < sh.length := by have := (List.getElem?_eq_some_iff.1 hr).1; omega
 have hi' : i < locs.length := by have := h.len; omega
 have hl : locs[i]? = some locs[i] := List.getElem?_eq_getElem hi'
 have hs : sh[i]? = some sh[i] := List.getElem?_eq_getElem hi
 have hrow := e3 i _ _ hl hs
 rw [hr] at hrow
 cases hrow
 have hy' : y = [.list .loose (sh[i]).1, .int .i64 (sh[i]).2] := by
  simp only [shRows] at hy
  rw [List.getElem?_map, hs] at hy
  cases hy; rfl
 subst hy'
 have hval := bytes_val (hv _ (List.mem_of_getElem? hs)).2
 refine mapL_cons (retD_row (h.byt i _ _ hl hs) rfl (mapL_id fun r hr => mapL_id fun x hx => retD_val (List.all_eq_true.1 (List.all_eq_true.1 hval r hr) x hx))) rfl
def bkRows (locs : List Nat) : List (List AV) := locs.map fun l => [.row true l 0 128, .int .i64 0]
def zeroSh : List Sheet := List.replicate 120 (z128, 0)
structure BkI (H : Hp) (i : Nat) (Hx : Hp) (L : Nat) (locs : List Nat) : Prop where
 len : locs.length = i
 le : i ≤ 120
 r : Hx[H.length]? = some (.arr 42 2 [[.int .i64 0, .nils]])
 o : Hx[H.length + 1]? = some (.arr 42 2 [[.int .i64 0, pval L (bkRows locs)]])
 pgs : (bkRows locs = [] ∧ Hx.length + 2 ≤ L) ∨ (bkRows locs ≠ [] ∧ Hx[L]? = some (.arr 95 2 (bkRows locs)))
 byt : ∀ l ∈ locs, Hx[l]? = some (.arr 5 1 z128)
 nd : locs.Nodup
 gt : ∀ l ∈ locs, H.length + 1 < l ∧ l < Hx.length ∧ l ≠ L
 gL : H.length + 1 < L
 pre : ∀ (l : Nat) (o : VO), H[l]? = some o → Hx[l]? = some o
theorem BkI.next {H Hx : Hp} {i L : Nat} {locs : List Nat} (h : BkI H i Hx L locs) (hi : i < 120) : BkI H (i + 1) ((((Hx ++ [VO.arr 5 1 z128]) ++ [VO.arr 95 2 [[AV.row true Hx.length 0 128, AV.int .i64 0]]]).set L .dead ++ [VO.arr 95 2 (bkRows locs ++ [[AV.row true Hx.length 0 128, AV.int .i64 0]])]).set (H.length + 1) (VO.arr 42 2 [[.int .i64 0, .row false (Hx.length + 2) 0 ((bkRows locs).length + 1)]])) (Hx.length + 2) (locs ++ [Hx.length]) := by
 have ho := (List.getElem?_eq_some_iff.1 h.o).1
 have hgL := h.gL
 have hrw : bkRows (locs ++ [Hx.length]) = bkRows locs ++ [[.row true Hx.length 0 128, .int .i64 0]] := by simp [bkRows]
 have old : ∀ (l : Nat) (o : VO), Hx[l]? = some o → l ≠ H.length + 1 → l ≠ L → ((((Hx ++ [VO.arr 5 1 z128]) ++ [VO.arr 95 2 [[AV.row true Hx.length 0 128, AV.int .i64 0]]]).set L .dead ++ [VO.arr 95 2 (bkRows locs ++ [[AV.row true Hx.length 0 128, AV.int .i64 0]])]).set (H.length + 1) (VO.arr 42 2 [[.int .i64 0, .row false (Hx.length + 2) 0 ((bkRows locs).length + 1)]]))[l]? = some o := fun l o hl h1 h2 =>
  get_set (get_app (get_set (get_app (get_app hl)) (by omega))) (by omega)
 have hlen : ((((Hx ++ [VO.arr 5 1 z128]) ++ [VO.arr 95 2 [[AV.row true Hx.length 0 128, AV.int .i64 0]]]).set L .dead ++ [VO.arr 95 2 (bkRows locs ++ [[AV.row true Hx.length 0 128, AV.int .i64 0]])]).set (H.length + 1) (VO.arr 42 2 [[.int .i64 0, .row false (Hx.length + 2) 0 ((bkRows locs).length + 1)]])).length = Hx.length + 3 := by simp
 have hne : L ≠ Hx.length := by
  rcases h.pgs with ⟨_, h2⟩ | ⟨_, h2⟩
  · omega
  · have := (List.getElem?_eq_some_iff.1 h2).1; omega
 refine ⟨by simp [h.len], by omega, old _ _ h.r (by omega) (by omega), ?_, .inr ⟨by rw [hrw]; simp, ?_⟩, ?_, ?_, ?_, by omega, fun l o hl => ?_⟩
 · rw [hrw]
   have e : pval (Hx.length + 2) (bkRows locs ++ [[.row true Hx.length 0 128, .int .i64 0]]) = .row false (Hx.length + 2) 0 ((bkRows locs).length + 1) := by simp [pval]
   rw [e]
   exact get_self (get_app (get_set (get_app (get_app h.o)) (by omega)))
 · rw [hrw]
   refine get_set ?_ (by omega)
   rw [List.getElem?_append_right (by simp)]
   simp
 · intro l hl
   rcases List.mem_append.1 hl with hl | hl
   · have := h.gt l hl
     exact old _ _ (h.byt l hl) (by omega) (by omega)
   · simp at hl
     subst hl
     exact get_set (get_app (get_set (get_app get_last) hne)) (by omega)
 · rw [List.nodup_append]
   refine ⟨h.nd, by simp, fun a ha b hb e => ?_⟩
   simp at hb
   have := (h.gt a ha).2
   omega
 · intro l hl
   rw [hlen]
   rcases List.mem_append.1 hl with hl | hl
   · have := h.gt l hl; omega
   · simp at hl; subst hl; omega
 · have hl2 := (List.getElem?_eq_some_iff.1 hl).1
   exact old _ _ (h.pre l o hl) (by omega) (by omega)
theorem BkI.img {H Hx : Hp} {i L : Nat} {locs : List Nat} {o : VO} (h : BkI H i Hx L locs) (hi : ¬ i < 120) : BImg (Hx.set H.length o) L locs zeroSh := by
 have hle := h.le
 have hi2 : locs.length = 120 := by rw [h.len]; omega
 have hne : bkRows locs ≠ [] := fun e => by have := congrArg List.length e; simp [bkRows, hi2] at this
 have hL := (h.pgs.resolve_left fun c => hne c.1).2
 have hgL := h.gL
 have hset : ∀ l o', Hx[l]? = some o' → l ≠ H.length → (Hx.set H.length o)[l]? = some o' := fun l o' ho hn => get_set ho (by omega)
 have hLL := hset L _ hL (by omega)
 have hs : ∀ (j : Nat) (s : Sheet), zeroSh[j]? = some s → s = (z128, 0) := fun j s h => List.eq_of_mem_replicate (List.mem_of_getElem? h)
 have hz : zeroSh.length = 120 := List.length_replicate ..
 have hb : (bkRows locs).length = 120 := by simp [bkRows, hi2]
 refine ⟨by rw [hi2, hz], fun r hr => by rw [hLL] at hr; cases hr; rw [hb, hz], ⟨_, hLL, by rw [hb, hz], fun j l s hl hs2 => ?_⟩, fun j l s hl hs2 => ?_, h.nd, fun l hl => (h.gt l hl).2.2⟩
 · rw [hs j s hs2, bkRows, List.getElem?_map, hl]
   rfl
 · rw [hs j s hs2]
   have hm := List.mem_of_getElem? hl
   exact hset l _ (h.byt l hm) (by have := (h.gt l hm).1; omega)
theorem z128_bs : Bs z128 := fun q hq => ⟨0, List.eq_of_mem_replicate hq⟩
theorem zeroSh_ok : ShOk zeroSh := fun s hs => by
 have := List.eq_of_mem_replicate hs
 subst this
 exact ⟨List.length_replicate .., z128_bs⟩
set_option maxHeartbeats 8000000 in
theorem bBlank (G : Glob) (H : Hp) : XS Tryz.prog G 59 [] H (fun r H' => ∃ L locs, r = .agg [.int .i64 0, .row false L 0 120] ∧ BImg H' L locs zeroSh ∧ H.length ≤ L ∧ (∀ l ∈ locs, H.length ≤ l) ∧ ∀ (l : Nat) (o : VO), H[l]? = some o → H'[l]? = some o) := by
 refine xs_body (fun o => match o.op with | .call ⟨.builtin .append, _, _⟩ => .shr | .buildSlice _ _ _ => .shr | _ => .iso) Tryz.func59 rfl ?_
 refine vc_norm (env' := [_, _, _, _, _, _, _, _, _, _, _, _, _]) (H' := _) rfl rfl ?_
 refine vs (wr ?_)
 refine w_opH (v := .ptr H.length 0 0) (env' := _) (H2 := (H ++ [VO.arr 42 2 [[.int .i64 0, .nils]]])) rfl (g_alloc z42 rfl rfl) rfl (rfl) (fun _ h => h) (v13 rfl ?_)
 refine we rfl (vs (wr ?_))
 refine w_opH (v := .ptr (H.length + 1) 0 0) (env' := _) (H2 := (H ++ [VO.arr 42 2 [[.int .i64 0, .nils]]] ++ [VO.arr 42 2 [[.int .i64 0, .nils]]])) rfl (g_alloc z42 rfl (by simp)) rfl (rfl) (fun _ h => h) (v13 rfl ?_)
 refine we rfl (vs (vs (wr ?_)))
 refine wN rfl rfl rfl (v13 rfl ?_)
 refine we rfl (vc_block ?_)
 refine vc_loopX (α := { a : Nat × Hp × Nat × List Nat // BkI H a.1 a.2.1 a.2.2.1 a.2.2.2 }) (fun a => ([none, none, some (.int .i64 (a.1.1 : Nat))] ++ (rundef 9 ++ ([none])))) (fun a => a.1.2.1) (fun a => 120 - a.1.1) ⟨(0, (H ++ [VO.arr 42 2 [[.int .i64 0, .nils]]] ++ [VO.arr 42 2 [[.int .i64 0, .nils]]]), H.length + 4, []), ⟨rfl, by omega, get_app get_last, by simp [pval, bkRows], .inl ⟨rfl, by simp⟩, fun l h => by simp at h, List.nodup_nil, fun l h => by simp at h, by show H.length + 1 < H.length + 4; omega, fun l o h => get_app (get_app h)⟩⟩ (by repeat' first | exact trivial | refine ⟨.inr rfl, ?_⟩ | refine ⟨.inl rfl, ?_⟩ | fail) rfl ?_
 rintro ⟨⟨i, Hx, L, locs⟩, hI⟩ Y0 hY0
 refine vc_norm (env' := [_, _, .int .i64 (i : Int), _, _, _, _, _, _, _, _, _, _]) (H' := Hx) rfl rfl ?_
 replace hI : BkI H i Hx L locs := hI
 refine vs (wr ?_)
 refine wN rfl rfl rfl (v13 rfl ?_)
 refine we rfl (vs ?_)
 refine vc_cond rfl (fun hc3 => ?_) (fun hc3 => ?_)
 ·
  have hlt : i < 120 := by have := of_decide_eq_true hc3; omega
  refine vc_skip (n_then (vs (vc_block ?_)))
  have hLne : L ≠ H.length + 1 := by have := hI.gL; omega
  have hsrc : srcRows ((Hx ++ [VO.arr 5 1 z128]) ++ [VO.arr 95 2 [[AV.row true Hx.length 0 128, AV.int .i64 0]]]) (.row true (Hx.length + 1) 0 1) = some [[AV.row true Hx.length 0 128, AV.int .i64 0]] := row_all (rows := [[AV.row true Hx.length 0 128, AV.int .i64 0]]) (get_lastn (by simp))
  have hacc : (bkRows locs = [] ∧ ((Hx ++ [VO.arr 5 1 z128]) ++ [VO.arr 95 2 [[AV.row true Hx.length 0 128, AV.int .i64 0]]]).length ≤ L) ∨ (bkRows locs ≠ [] ∧ ((Hx ++ [VO.arr 5 1 z128]) ++ [VO.arr 95 2 [[AV.row true Hx.length 0 128, AV.int .i64 0]]])[L]? = some (.arr 95 2 (bkRows locs))) := hI.pgs.imp (fun h => ⟨h.1, by simp; exact h.2⟩) (fun h => ⟨h.1, get_app (get_app h.2)⟩)
  refine w_regionW [(Hx ++ [VO.arr 5 1 z128]), ((Hx ++ [VO.arr 5 1 z128]) ++ [VO.arr 95 2 [[AV.row true Hx.length 0 128, AV.int .i64 0]]]), (((Hx ++ [VO.arr 5 1 z128]) ++ [VO.arr 95 2 [[AV.row true Hx.length 0 128, AV.int .i64 0]]]).set L .dead ++ [VO.arr 95 2 (bkRows locs ++ [[AV.row true Hx.length 0 128, AV.int .i64 0]])]), ((((Hx ++ [VO.arr 5 1 z128]) ++ [VO.arr 95 2 [[AV.row true Hx.length 0 128, AV.int .i64 0]]]).set L .dead ++ [VO.arr 95 2 (bkRows locs ++ [[AV.row true Hx.length 0 128, AV.int .i64 0]])]).set (H.length + 1) (VO.arr 42 2 [[.int .i64 0, .row false (Hx.length + 2) 0 ((bkRows locs).length + 1)]]))] (by kernel_rfl) ?_
  refine e_op (v := .ptr (H.length + 1) 0 1) (env' := _) rfl (by decide) (show _ = (0, 2) by kernel_rfl) (by decide) (fun _ _ h => h) (fun q h1 h2 => rfl) rfl (w13 rfl ?_)
  refine e_op (v := pval L (bkRows locs)) (env' := _) rfl (by decide) (show _ = (0, 2) by kernel_rfl) (by decide) (fun _ _ h => h) (fun q h1 h2 => (match q, h1, h2 with | 0, _, _ => g_load hI.o rfl rfl | 1, _, _ => g_load (get_app hI.o) rfl rfl | 2, _, _ => g_load (get_app (get_app hI.o)) rfl rfl | q + 3, _, h2 => absurd h2 (by omega))) rfl (w13 rfl ?_)
  refine e_eff (H0 := Hx) (H1 := (Hx ++ [VO.arr 5 1 z128])) (v := .row true Hx.length 0 128) (env' := _) rfl rfl (show _ = (0, 1) by kernel_rfl) rfl rfl (fun _ _ h => h) ((rfl : vmake Tryz.prog Hx 68 (.int .i64 128) (.int .i64 128) = some (.row true Hx.length 0 128, Hx ++ [VO.arr 5 1 z128]))) rfl (w13 rfl ?_)
  refine e_op (v := .agg [AV.row true Hx.length 0 128, AV.int .i64 0]) (env' := _) rfl (by decide) (show _ = (1, 1) by kernel_rfl) (by decide) (fun _ _ h => h) (fun q h1 h2 => rfl) rfl (w13 rfl ?_)
  refine e_eff (H0 := (Hx ++ [VO.arr 5 1 z128])) (H1 := ((Hx ++ [VO.arr 5 1 z128]) ++ [VO.arr 95 2 [[AV.row true Hx.length 0 128, AV.int .i64 0]]])) (v := .row true (Hx.length + 1) 0 1) (env' := _) rfl rfl (show _ = (1, 2) by kernel_rfl) rfl rfl (fun _ _ h => h) (g_build1 (H := (Hx ++ [VO.arr 5 1 z128])) (x := .agg [AV.row true Hx.length 0 128, AV.int .i64 0]) (cs := [AV.row true Hx.length 0 128, AV.int .i64 0]) el40 zc95 (by decide) rfl rfl (by simp)) rfl (w13 rfl ?_)
  refine e_eff (H0 := ((Hx ++ [VO.arr 5 1 z128]) ++ [VO.arr 95 2 [[AV.row true Hx.length 0 128, AV.int .i64 0]]])) (H1 := (((Hx ++ [VO.arr 5 1 z128]) ++ [VO.arr 95 2 [[AV.row true Hx.length 0 128, AV.int .i64 0]]]).set L .dead ++ [VO.arr 95 2 (bkRows locs ++ [[AV.row true Hx.length 0 128, AV.int .i64 0]])])) (v := .row false (Hx.length + 2) 0 ((bkRows locs).length + 1)) (env' := _) rfl rfl (show _ = (2, 3) by kernel_rfl) rfl rfl (fun _ _ h => h) (accR (n := Hx.length + 2) (H := ((Hx ++ [VO.arr 5 1 z128]) ++ [VO.arr 95 2 [[AV.row true Hx.length 0 128, AV.int .i64 0]]])) (L := L) (pgs := bkRows locs) (news := [[AV.row true Hx.length 0 128, AV.int .i64 0]]) (x := .row true (Hx.length + 1) 0 1) (e := 95) hacc (by simp) el40 Tryz.underlying40 rfl zc95 by95 hsrc rfl (by decide) (by decide) rfl rfl (by simp) (by simp [bkRows]; have := hI.len; omega)) rfl (w13 rfl ?_)
  refine e_op (v := .ptr (H.length + 1) 0 1) (env' := _) rfl (by decide) (show _ = (3, 3) by kernel_rfl) (by decide) (fun _ _ h => h) (fun q h1 h2 => rfl) rfl (w13 rfl ?_)
  refine e_eff0 (H0 := (((Hx ++ [VO.arr 5 1 z128]) ++ [VO.arr 95 2 [[AV.row true Hx.length 0 128, AV.int .i64 0]]]).set L .dead ++ [VO.arr 95 2 (bkRows locs ++ [[AV.row true Hx.length 0 128, AV.int .i64 0]])])) (H1 := ((((Hx ++ [VO.arr 5 1 z128]) ++ [VO.arr 95 2 [[AV.row true Hx.length 0 128, AV.int .i64 0]]]).set L .dead ++ [VO.arr 95 2 (bkRows locs ++ [[AV.row true Hx.length 0 128, AV.int .i64 0]])]).set (H.length + 1) (VO.arr 42 2 [[.int .i64 0, .row false (Hx.length + 2) 0 ((bkRows locs).length + 1)]]))) rfl rfl (show _ = (3, 4) by kernel_rfl) rfl rfl (fun _ _ h => h) (g_store (i := 0) (rows := [[.int .i64 0, pval L (bkRows locs)]]) (r := [.int .i64 0, pval L (bkRows locs)]) (k := 1) (x := .row false (Hx.length + 2) 0 ((bkRows locs).length + 1)) (cs := [.row false (Hx.length + 2) 0 ((bkRows locs).length + 1)]) (get_app (get_set (get_app (get_app hI.o)) hLne)) rfl rfl sz40 ⟨rfl, by simp, by decide⟩) ?_
  refine e_endB (H' := ((((Hx ++ [VO.arr 5 1 z128]) ++ [VO.arr 95 2 [[AV.row true Hx.length 0 128, AV.int .i64 0]]]).set L .dead ++ [VO.arr 95 2 (bkRows locs ++ [[AV.row true Hx.length 0 128, AV.int .i64 0]])]).set (H.length + 1) (VO.arr 42 2 [[.int .i64 0, .row false (Hx.length + 2) 0 ((bkRows locs).length + 1)]]))) rfl ?_
  refine n_then (wr ?_)
  refine wN (v := .int .i64 ((i : Int) + 1)) rfl (int_eq (i64_small (by omega) (by omega))) rfl (v13 rfl ?_)
  refine wN rfl rfl rfl (v13 rfl ?_)
  refine we rfl ?_
  refine hY0 ⟨(i + 1, _, _, _), hI.next hlt⟩ (by simp only; omega) _ _ ?_ rfl
  repeat' first | exact trivial | refine ⟨.inr rfl, ?_⟩ | refine ⟨.inl rfl, ?_⟩ | refine ⟨.inl ?_, ?_⟩ | fail
  all_goals first | exact congrArg (AV.int .i64) (by omega : ((i + 1 : Nat) : Int) = (i : Int) + 1)
 ·
  have hge : ¬ i < 120 := by have := of_decide_eq_false hc3; omega
  have hle := hI.le
  have hpv : pval L (bkRows locs) = .row false L 0 120 := by
   have hl : (bkRows locs).length = 120 := by simp [bkRows]; rw [hI.len]; omega
   have : bkRows locs ≠ [] := fun e => by rw [e] at hl; cases hl
   simp only [pval, if_neg this, hl]
  refine vc_exit (x_then (x_then (x_same (n_then (vs (wr ?_))))))
  refine wN (v := .agg [.int .i64 0, pval L (bkRows locs)]) rfl (g_load hI.o rfl rfl) rfl (v13 rfl ?_)
  refine w_op0N (H2 := _) rfl (g_store hI.r rfl rfl sz42 ⟨rfl, by simp, by decide⟩) (rfl) (fun _ h => h) ?_
  refine we rfl (vc_ret ?_)
  refine r_fn (vres_cell rfl rfl (g_vload (get_self hI.r) rfl rfl)) ?_
  refine ⟨L, locs, by rw [← hpv]; rfl, hI.img hge, by have := hI.gL; omega, fun l hl => by have := (hI.gt l hl).1; omega, fun l o h => ?_⟩
  exact get_set (hI.pre l o h) (by have := (List.getElem?_eq_some_iff.1 h).1; omega)
theorem bBlankF (G : Glob) : Vi.Fn Tryz.prog G 59 [] (.agg [.int .i64 0, .list .loose (shRows zeroSh)]) := by
 refine XS.mono (bBlank G []) ?_
 rintro r H1 ⟨L, locs, rfl, hI, _, _, _⟩
 show (mapL (ret0 H1) [.int .i64 0, .row false L 0 120]).map AV.agg = _
 simp only [mapL, hI.ret (n := 120) (List.length_replicate ..) zeroSh_ok]
 rfl
end Lay
end Go.Vi
namespace Go.Vi
open Go Go.Vi Go.Proofs
attribute [local irreducible] vops vopsD vc
namespace Lay
def layR (sh : List Sheet) (r : Rc) (j : Nat) : List Sheet := if laysB r = true then updS sh r.page.toNat fun s => (lay s.1 r.pos.toNat (lrows r.aft), (j : Int) + 1) else sh
def stepR (l : List Rc) (sh : List Sheet) (j : Nat) : List Sheet := match l[j]? with
 | some r => layR sh r j
 | none => sh
def fwd (l : List Rc) (sh : List Sheet) (a n : Nat) : List Sheet := (List.range' a n).foldl (stepR l) sh
theorem fwd_zero {l : List Rc} {sh : List Sheet} {a : Nat} : fwd l sh a 0 = sh := rfl
theorem fwd_succ {l : List Rc} {sh : List Sheet} {a n : Nat} : fwd l sh a (n + 1) = stepR l (fwd l sh a n) (a + n) := by
 unfold fwd
 rw [List.range'_concat, List.foldl_append]
 simp
theorem layR_length {sh : List Sheet} {r : Rc} {j : Nat} : (layR sh r j).length = sh.length := by
 unfold layR; split
 · exact updS_length
 · rfl
theorem stepR_length {l : List Rc} {sh : List Sheet} {j : Nat} : (stepR l sh j).length = sh.length := by
 unfold stepR; split
 · exact layR_length
 · rfl
theorem fwd_length {l : List Rc} {sh : List Sheet} {a : Nat} : ∀ {n : Nat}, (fwd l sh a n).length = sh.length
 | 0 => rfl
 | n + 1 => by rw [fwd_succ, stepR_length, fwd_length]
def RIn (l : List Rc) : Prop := ∀ r ∈ l, r.Ok ∧ r.In
theorem layR_ok {sh : List Sheet} {r : Rc} {j : Nat} (h : ShOk sh) (hr : r.Ok) (hi : r.In) : ShOk (layR sh r j) := by
 have hp0 := hi.p0
 have hp1 := hi.p1
 have hna : r.na = (lrows r.aft).length := rfl
 unfold layR
 split
 · refine h.upd fun s h1 h2 => ⟨?_, lay_bs h2 hr.aft.2.2⟩
   show (lay s.1 _ _).length = 128
   rw [lay_length (by omega)]; exact h1
 · exact h
theorem stepR_ok {l : List Rc} {sh : List Sheet} {j : Nat} (hl : RIn l) (h : ShOk sh) : ShOk (stepR l sh j) := by
 unfold stepR
 split
 · rename_i r hr
   obtain ⟨a, b⟩ := hl r (List.mem_of_getElem? hr)
   exact layR_ok h a b
 · exact h
theorem fwd_ok {l : List Rc} {sh : List Sheet} {a : Nat} (hl : RIn l) (h : ShOk sh) : ∀ {n : Nat}, ShOk (fwd l sh a n)
 | 0 => h
 | n + 1 => by rw [fwd_succ]; exact stepR_ok hl (fwd_ok hl h)
structure FInv (q r1 : Nat) (Hx : Hp) (L : Nat) (locs : List Nat) (last0 : Int) (sh : List Sheet) : Prop where
 img : Img Hx L locs sh
 o : Hx[q]? = some (.arr 42 2 [[.int .i64 last0, .row false L 0 120]])
 r : Hx[r1]? = some (.arr 42 2 [[.int .i64 0, .nils]])
 n : sh.length = 120
 nL : L ≠ q ∧ L ≠ r1
 nl : q ∉ locs ∧ r1 ∉ locs
section
variable {q r1 L : Nat} {Hx : Hp} {locs : List Nat} {last0 : Int} {sh : List Sheet}
theorem FInv.app (h : FInv q r1 Hx L locs last0 sh) (g : Hp) : FInv q r1 (Hx ++ g) L locs last0 sh := ⟨h.img.app, get_app h.o, get_app h.r, h.n, h.nL, h.nl⟩
theorem FInv.byte (h : FInv q r1 Hx L locs last0 sh) {i l : Nat} {s : Sheet} {b : List (List AV)} (hl : locs[i]? = some l) (hs : sh[i]? = some s) (hb : b.length = s.1.length) : FInv q r1 (Hx.set l (.arr 5 1 b)) L locs last0 (sh.set i (b, s.2)) := by
 have hm := List.mem_of_getElem? hl
 exact ⟨h.img.byte hl hs hb, get_set h.o (fun e => h.nl.1 (e ▸ hm)), get_set h.r (fun e => h.nl.2 (e ▸ hm)), by simp [h.n], h.nL, h.nl⟩
theorem FInv.stamp (h : FInv q r1 Hx L locs last0 sh) {i l : Nat} {s : Sheet} {k : Int} {rows : List (List AV)} (hr : Hx[L]? = some (.arr 95 2 rows)) (hl : locs[i]? = some l) (hs : sh[i]? = some s) : FInv q r1 (Hx.set L (.arr 95 2 (rows.set i [.row false l 0 s.1.length, .int .i64 k]))) L locs last0 (sh.set i (s.1, k)) :=
 ⟨h.img.stamp hr hl hs, get_set h.o h.nL.1, get_set h.r h.nL.2, by simp [h.n], h.nL, h.nl⟩
theorem FInv.at (h : FInv q r1 Hx L locs last0 sh) {i : Nat} (hi : i < 120) : ∃ l s rows, locs[i]? = some l ∧ sh[i]? = some s ∧ Hx[L]? = some (.arr 95 2 rows) ∧ rows[i]? = some [.row false l 0 s.1.length, .int .i64 s.2] ∧ Hx[l]? = some (.arr 5 1 s.1) := by
 have hn := h.n
 have hlen := h.img.len
 obtain ⟨rows, e1, e2, e3⟩ := h.img.row
 have hl : locs[i]? = some locs[i] := List.getElem?_eq_getElem (by omega)
 have hs : sh[i]? = some sh[i] := List.getElem?_eq_getElem (by omega)
 exact ⟨_, _, rows, hl, hs, e1, e3 i _ _ hl hs, h.img.byt i _ _ hl hs⟩
theorem FInv.ret (h : FInv q r1 Hx L locs last0 sh) (hv : ShOk sh) {last : Int} {o1 o2 : VO} : retv ((Hx.set q o1).set r1 o2) (.agg [.int .i64 last, .row false L 0 120]) = some (.agg [.int .i64 last, .list .loose (shRows sh)]) := by
 have hi := (h.img.other (k := q) (o := o1) h.nL.1.symm h.nl.1).other (k := r1) (o := o2) h.nL.2.symm h.nl.2
 show (mapL (ret0 _) [.int .i64 last, .row false L 0 120]).map AV.agg = _
 simp only [mapL, hi.ret h.n hv]
 rfl
end
theorem layR_set {sh : List Sheet} {r : Rc} {j : Nat} {s : Sheet} (hl : laysB r = true) (hs : sh[r.page.toNat]? = some s) : layR sh r j = (sh.set r.page.toNat (lay s.1 r.pos.toNat (lrows r.aft), s.2)).set r.page.toNat (lay s.1 r.pos.toNat (lrows r.aft), (j : Int) + 1) := by
 rw [layR, if_pos hl, updS_at hs, List.set_set]
theorem layR_no {sh : List Sheet} {r : Rc} {j : Nat} (hl : laysB r = false) : layR sh r j = sh := by rw [layR, if_neg (by rw [hl]; decide)]
theorem shOf_len {rows : List (List AV)} : (shOf rows).length = rows.length := by simp [shOf]
set_option maxHeartbeats 8000000 in
theorem bForward (G : Glob) (last : Int) (tg : Tg) (rows : List (List AV)) (x : AV) (l : List Rc) (hx : Recs x l) (hl : l.length ≤ 1000000) (h0 : 0 ≤ last) (hn : rows.length = 120) (hPI : ∀ r ∈ rows, PageIs r) (hSh : ShOk (shOf rows)) (hR : RIn l) : Vi.Fn Tryz.prog G 55 [.agg [.int .i64 last, .list tg rows], x] (.agg [.int .i64 l.length, .list .loose (shRows (fwd l (shOf rows) last.toNat (l.length - last.toNat)))]) := by
 have hL := hx.isL
 have hxl : (lrows x).length = l.length := by rw [hx.rows]; simp
 have hne : rows ≠ [] := fun e => by rw [e] at hn; cases hn
 refine fn_body (fun o => match o.op with | .call ⟨.value (.func f), _, _⟩ => if f = 69 then .shr else .iso | _ => .iso) Tryz.func55 rfl ?_
 refine vc_norm (env' := (_ :: _ :: _ :: _ :: _ :: _ :: _ :: _ :: _ :: _ :: _ :: _ :: _ :: _ :: _ :: _ :: _ :: _ :: _ :: _ :: _ :: _ :: _ :: _ :: _ :: _ :: _ :: _ :: _ :: _ :: _ :: _ :: _ :: _ :: _ :: _ :: _ :: _ :: _ :: _ :: _ :: _ :: _ :: _ :: _ :: _ :: _ :: _ :: [])) (H' := []) rfl rfl ?_
 refine vs (wr ?_)
 refine w_opH (v := .ptr 0 0 0) (env' := _) (H2 := [.arr 42 2 [[_, _]]]) rfl rfl rfl rfl (fun _ h => h) (v48 rfl ?_)
 refine w_opH (v := .ptr 1 0 0) (env' := _) (H2 := [.arr 42 2 [[_, _]], .arr 42 2 [[_, _]]]) rfl rfl rfl rfl (fun _ h => h) (v48 rfl ?_)
 refine we rfl (vs (wr ?_))
 refine wN (v := .agg [_, _]) rfl rfl rfl (v48 rfl ?_)
 refine w_callS rfl rfl rfl (by kernel_rfl) rfl (t15 G _ last tg rows hne (by omega) hPI) ?_
 rintro _ H6 ⟨L, locs, rfl, hI, hLl, hlocs, hpre⟩
 have h60 := hpre 0 _ rfl
 have h61 := hpre 1 _ rfl
 rw [hn]
 refine v48 rfl ?_
 refine w_op0N (H2 := (H6.set 0 (VO.arr 42 2 [[.int .i64 last, .row false L 0 120]]))) rfl (g_store h60 rfl rfl sz42 ⟨rfl, by simp, by decide⟩) (rfl) (fun _ h => h) ?_
 refine we rfl (vs (vs ?_))
 have hF0 : FInv 0 1 (H6.set 0 (VO.arr 42 2 [[.int .i64 last, .row false L 0 120]])) L locs last (shOf rows) := ⟨hI.other (by simp at hLl; omega) (fun h => by have := hlocs 0 h; simp at this), get_self h60, get_set h61 (by decide), by rw [shOf_len, hn], ⟨by simp at hLl; omega, by simp at hLl; omega⟩, ⟨fun h => by have := hlocs 0 h; simp at this, fun h => by have := hlocs 1 h; simp at this⟩⟩
 refine wr ?_
 refine wN (v := .ptr 0 0 0) rfl rfl rfl (v48 rfl ?_)
 refine wN (v := .int .i64 last) rfl (g_load (get_self h60) rfl rfl) rfl (v48 rfl ?_)
 refine wN rfl rfl rfl (v48 rfl ?_)
 refine we rfl (vc_block ?_)
 refine vc_loopX (α := { a : Nat × Hp // last.toNat ≤ a.1 ∧ (a.1 ≤ l.length ∨ a.1 = last.toNat) ∧ FInv 0 1 a.2 L locs last (fwd l (shOf rows) last.toNat (a.1 - last.toNat)) ∧ ShOk (fwd l (shOf rows) last.toNat (a.1 - last.toNat)) }) (fun a => (rnone 5 ++ ([some (.int .i64 (a.1.1 : Nat)), some .undef, some .undef] ++ (rnone 4 ++ (rundef 32 ++ (rnone 4)))))) (fun a => a.1.2) (fun a => l.length - a.1.1) ⟨(last.toNat, _), Nat.le_refl _, .inr rfl, by simpa [fwd_zero] using hF0, by simpa [fwd_zero] using hSh⟩ (by repeat' first | exact trivial | refine ⟨.inr rfl, ?_⟩ | refine ⟨.inl rfl, ?_⟩ | refine ⟨.inl (congrArg (AV.int .i64) (show ((last.toNat : Nat) : Int) = last by omega)), ?_⟩ | fail) rfl ?_
 rintro ⟨⟨i, Hx⟩, hil, hiu, hF, hSx⟩ Y0 hY0
 refine vc_norm (env' := (_ :: _ :: _ :: _ :: _ :: (.int .i64 (i : Int)) :: _ :: _ :: _ :: _ :: _ :: _ :: _ :: _ :: _ :: _ :: _ :: _ :: _ :: _ :: _ :: _ :: _ :: _ :: _ :: _ :: _ :: _ :: _ :: _ :: _ :: _ :: _ :: _ :: _ :: _ :: _ :: _ :: _ :: _ :: _ :: _ :: _ :: _ :: _ :: _ :: _ :: _ :: [])) (H' := Hx) rfl rfl ?_
 replace hil : last.toNat ≤ i := hil
 replace hF : FInv 0 1 Hx L locs last (fwd l (shOf rows) last.toNat (i - last.toNat)) := hF
 replace hSx : ShOk (fwd l (shOf rows) last.toNat (i - last.toNat)) := hSx
 refine vs (vs (wr ?_))
 iterate 2 refine wN rfl rfl rfl (v48 rfl ?_)
 first | refine wN rfl rfl rfl (v48 rfl ?_) | refine x_len rfl rfl ‹_› Tryz.underlying43 rfl (v48 rfl ?_)
 refine wN rfl rfl rfl (v48 rfl ?_)
 refine we rfl ?_
 refine vc_cond rfl (fun hc15 => ?_) (fun hc15 => ?_)
 ·
  have hlt : i < l.length := by have := of_decide_eq_true hc15; omega
  obtain ⟨r, hr⟩ : ∃ r, l[i]? = some r := ⟨_, List.getElem?_eq_getElem hlt⟩
  have hri := hx.at hr
  have hrm := List.mem_of_getElem? hr
  have hOk := hx.ok r hrm
  have hIn := (hR r hrm).2
  have hp0 := hIn.p0
  have hp1 := hIn.p1
  have hg0 := hIn.g0
  have hg1 := hIn.g1
  have hna : r.na = (lrows r.aft).length := rfl
  have hst : stepR l (fwd l (shOf rows) last.toNat (i - last.toNat)) i = layR (fwd l (shOf rows) last.toNat (i - last.toNat)) r i := by simp only [stepR, hr]
  have hsn : fwd l (shOf rows) last.toNat (i + 1 - last.toNat) = layR (fwd l (shOf rows) last.toNat (i - last.toNat)) r i := by
   rw [show i + 1 - last.toNat = (i - last.toNat) + 1 by omega, fwd_succ, show last.toNat + (i - last.toNat) = i by omega, hst]
  refine vc_skip (n_then (vs (vc_block (vs (wr ?_)))))
  iterate 2 refine wN rfl rfl rfl (v48 rfl ?_)
  first | refine wN (v := .iptr _ [_, _, _, _, _, _, _, _, _, _]) rfl rfl rfl (v48 rfl ?_) | (refine x_index rfl rfl ‹_› rfl el43 (by omega) ‹_› rfl (fun bo => ?_); refine v48 rfl ?_)
  refine wN (v := .agg r.row) rfl (rfl) rfl (v48 rfl ?_)
  refine w_opH (v := .ptr Hx.length 0 0) (env' := _) (H2 := (Hx ++ [VO.arr 93 10 [[.int .i64 0, .int .i64 0, .int .i64 0, .int .i64 0, .nils, .nils, .int .i64 0, .int .i64 0, .str ⟨#[]⟩, .nils]]])) rfl (g_alloc zr93b rfl rfl) rfl (rfl) (fun _ h => h) (v48 rfl ?_)
  refine w_op0N (H2 := (Hx ++ [VO.arr 93 10 [r.row]])) rfl (g_store get_last rfl rfl sz93 ⟨rfl, by simp [Rc.row], by decide⟩) (set_last) (fun _ h => h) ?_
  refine we rfl (vs (wr ?_))
  refine wN (v := .agg r.row) rfl (g_load get_last rfl rfl) rfl (v48 rfl ?_)
  refine w_callI (env' := _) rfl rfl rfl (by kernel_rfl) rfl (mapL_cons hOk.lend rfl) (sLays G r hOk) rfl (v48 rfl ?_)
  refine we rfl ?_
  refine vc_cond rfl (fun hc23 => ?_) (fun hc23 => ?_)
  ·
   refine vs ?_
   have hly : laysB r = true := hc23
   have hI2 := hF.app [VO.arr 93 10 [r.row]]
   obtain ⟨lp, s, prow, hlp, hsp, hpr, hprp, hby⟩ := hI2.at (i := r.page.toNat) (by omega)
   have h128 := (hSx s (List.mem_of_getElem? hsp)).1
   refine wr ?_
   refine wN (v := .ptr 0 0 1) rfl rfl rfl (v48 rfl ?_)
   refine wN (v := .row false L 0 120) rfl (g_load hI2.o rfl rfl) rfl (v48 rfl ?_)
   refine wN (v := .ptr Hx.length 0 2) rfl rfl rfl (v48 rfl ?_)
   refine wN (v := .int .i64 r.page) rfl (g_load get_last rfl rfl) rfl (v48 rfl ?_)
   refine wN (v := .ptr L r.page.toNat 0) rfl (g_index0 el40 hpr (by omega) (by omega)) rfl (v48 rfl ?_)
   refine wN rfl rfl rfl (v48 rfl ?_)
   refine we rfl (vs (w_regionD (by kernel_rfl) ?_))
   iterate 3 refine dN rfl rfl rfl (d48 rfl ?_)
   refine dN (v := .row false lp 0 s.1.length) rfl (g_load hpr hprp rfl) rfl (d48 rfl ?_)
   refine dN (v := .ptr Hx.length 0 3) rfl rfl rfl (d48 rfl ?_)
   refine dN (v := .int .i64 r.pos) rfl (g_load get_last rfl rfl) rfl (d48 rfl ?_)
   refine dN (v := .row false lp r.pos.toNat (s.1.length - r.pos.toNat)) rfl (g_slice0 Tryz.underlying68 sz5 hby (by omega) (by omega)) rfl (d48 rfl ?_)
   refine dN (v := .ptr Hx.length 0 5) rfl rfl rfl (d48 rfl ?_)
   refine dN (v := r.aft) rfl (g_load get_last rfl rfl) rfl (d48 rfl ?_)
   refine d_opH (v := .int .i64 ((lrows r.aft).length : Nat)) (env' := _) (H2 := ((Hx ++ [VO.arr 93 10 [r.row]]).set lp (VO.arr 5 1 (lay s.1 r.pos.toNat (lrows r.aft))))) rfl (g_copyL (b := false) (x := r.aft) (rows' := lrows r.aft) (i := r.pos.toNat) (m := s.1.length - r.pos.toNat) el68 hby hOk.aft.1.src (bytes_len hOk.aft.2.2) (by decide) hOk.aft.1.notStr (by omega) (by omega)) (.inl rfl) rfl (rfl) (fun _ h => h) (d48 rfl ?_)
   refine d_end rfl ?_
   have hI3 := hI2.byte (b := lay s.1 r.pos.toNat (lrows r.aft)) hlp hsp (lay_length (by omega))
   have hpr2 := get_set (o' := VO.arr 5 1 (lay s.1 r.pos.toNat (lrows r.aft))) hpr (hI2.img.ne lp (List.mem_of_getElem? hlp))
   refine wr ?_
   iterate 2 refine wN rfl rfl rfl (v48 rfl ?_)
   refine wN (v := .int .i64 ((i : Int) + 1)) rfl (int_eq (i64_small (by omega) (by omega))) rfl (v48 rfl ?_)
   iterate 2 refine wN rfl rfl rfl (v48 rfl ?_)
   refine w_op0N (H2 := (((Hx ++ [VO.arr 93 10 [r.row]]).set lp (VO.arr 5 1 (lay s.1 r.pos.toNat (lrows r.aft)))).set L (VO.arr 95 2 (prow.set r.page.toNat [.row false lp 0 s.1.length, .int .i64 ((i : Int) + 1)])))) rfl (g_store hpr2 hprp rfl sz3 ⟨rfl, by simp, by decide⟩) (rfl) (fun _ h => h) ?_
   refine w_endB rfl (n_then (wr ?_))
   iterate 3 refine wN rfl rfl rfl (v48 rfl ?_)
   refine we rfl ?_
   refine hY0 ⟨(i + 1, _), by omega, .inl hlt, by show FInv 0 1 _ L locs last (fwd l (shOf rows) last.toNat (i + 1 - last.toNat)); rw [hsn, layR_set hly hsp]; have h9 := hI3.stamp (s := (lay s.1 r.pos.toNat (lrows r.aft), s.2)) (k := (i : Int) + 1) hpr2 hlp (List.getElem?_set_self (List.getElem?_eq_some_iff.1 hsp).1); simp only [lay_length (show r.pos.toNat + (lrows r.aft).length ≤ s.1.length by omega)] at h9; exact h9, by show ShOk (fwd l (shOf rows) last.toNat (i + 1 - last.toNat)); rw [hsn]; exact layR_ok hSx hOk hIn⟩ (by simp only; omega) _ _ ?_ rfl
   repeat' first | exact trivial | refine ⟨.inr rfl, ?_⟩ | refine ⟨.inl rfl, ?_⟩ | refine ⟨.inl ?_, ?_⟩ | fail
   all_goals first | exact (int_succ (by omega)).symm
  ·
   have hly : laysB r = false := hc23
   refine vc_skip (n_block (n_then (wr ?_)))
   iterate 3 refine wN rfl rfl rfl (v48 rfl ?_)
   refine we rfl ?_
   refine hY0 ⟨(i + 1, _), by omega, .inl hlt, by show FInv 0 1 _ L locs last (fwd l (shOf rows) last.toNat (i + 1 - last.toNat)); rw [hsn, layR_no hly]; exact hF.app [VO.arr 93 10 [r.row]], by show ShOk (fwd l (shOf rows) last.toNat (i + 1 - last.toNat)); rw [hsn]; exact layR_ok hSx hOk hIn⟩ (by simp only; omega) _ _ ?_ rfl
   repeat' first | exact trivial | refine ⟨.inr rfl, ?_⟩ | refine ⟨.inl rfl, ?_⟩ | refine ⟨.inl ?_, ?_⟩ | fail
   all_goals first | exact (int_succ (by omega)).symm
 ·
  have hge : l.length ≤ i := by have := of_decide_eq_false hc15; omega
  refine vc_exit (x_then (x_then (x_same (n_then (vs (wr ?_))))))
  refine wN rfl rfl rfl (v48 rfl ?_)
  refine wN (v := .int .i64 l.length) rfl ((by rw [← hxl]; exact vlen_isL hL Tryz.underlying43)) rfl (v48 rfl ?_)
  refine wN (v := .ptr 0 0 0) rfl rfl rfl (v48 rfl ?_)
  refine w_op0N (H2 := (Hx.set 0 (VO.arr 42 2 [[.int .i64 l.length, .row false L 0 120]]))) rfl (g_store hF.o rfl rfl sz3 ⟨rfl, by simp, by decide⟩) (rfl) (fun _ h => h) ?_
  refine we rfl (vs (wr ?_))
  refine wN (v := .agg [.int .i64 l.length, .row false L 0 120]) rfl (g_load (get_self hF.o) rfl rfl) rfl (v48 rfl ?_)
  refine w_op0N (H2 := ((Hx.set 0 (VO.arr 42 2 [[.int .i64 l.length, .row false L 0 120]])).set 1 (VO.arr 42 2 [[.int .i64 l.length, .row false L 0 120]]))) rfl (g_store (get_set hF.r (by decide)) rfl rfl sz42 ⟨rfl, by simp, by decide⟩) (rfl) (fun _ h => h) ?_
  refine we rfl (vc_ret ?_)
  refine r_fn (vres_cell rfl rfl (g_vload (get_self (get_set hF.r (by decide))) rfl rfl)) ?_
  have hfin : fwd l (shOf rows) last.toNat (i - last.toNat) = fwd l (shOf rows) last.toNat (l.length - last.toNat) := by rw [show i - last.toNat = l.length - last.toNat by omega]
  rw [hfin] at hF hSx
  exact hF.ret hSx
end Lay
end Go.Vi
namespace Go.Vi
open Go Go.Vi Go.Proofs
attribute [local irreducible] vops vopsD vc
namespace Lay
theorem shOf_shRows (sh : List Sheet) : shOf (shRows sh) = sh := by
 unfold shOf shRows
 rw [List.map_map]
 conv => rhs; rw [← List.map_id sh]
 exact List.map_congr_left fun s _ => rfl
theorem shRows_len {sh : List Sheet} : (shRows sh).length = sh.length := by simp [shRows]
theorem pagesIs {sh : List Sheet} (h : ShOk sh) : ∀ r ∈ shRows sh, PageIs r := by
 intro r hr
 obtain ⟨s, hs, rfl⟩ := List.mem_map.1 hr
 obtain ⟨h1, h2⟩ := h s hs
 have hne : s.1 ≠ [] := fun e => by rw [e] at h1; cases h1
 exact ⟨.loose, s.1, s.2, rfl, hne, by omega, h2⟩
theorem of_in : ∀ {l : List Rc} {s s' : St}, s.of l = some s' → ∀ r ∈ l, r.In
 | [], s, s', h, r, hr => by cases hr
 | q :: l, s, s', h, r, hr => by
   simp only [St.of] at h
   split at h
   · rename_i hq
     rcases List.mem_cons.1 hr with rfl | hr
     · exact validP_in (follows_valid hq)
     · exact of_in h r hr
   · cases h
theorem sound_some {l : List Rc} (h : soundR l = true) : ∃ s, St.new.of l = some s := Option.isSome_iff_exists.1 h
theorem sound_in {x : AV} {l : List Rc} (hx : Recs x l) (h : soundR l = true) : RIn l := by
 obtain ⟨s, hs⟩ := sound_some h
 exact fun r hr => ⟨hx.ok r hr, of_in hs r hr⟩
noncomputable def copyR (l : List Rc) : AV := if soundR l = true then okR l.length (fwd l zeroSh 0 l.length) else errR 50
noncomputable def recR (last0 : Int) (rows : List (List AV)) (l : List Rc) : AV := if validB last0 rows = true then (if soundR l = true then (if last0 > l.length then errR 2 else okR l.length (fwd l (shOf rows) last0.toNat (l.length - last0.toNat))) else errR 50) else errR 270
set_option maxHeartbeats 8000000 in
theorem bCopy (G : Glob) (x : AV) (l : List Rc) (hx : Recs x l) (hl : l.length ≤ 1000000) : Vi.Fn Tryz.prog G 23 [x] (copyR l) := by
 have hL := hx.isL
 refine fn_body (fun _ => .iso) Tryz.func23 rfl ?_
 refine vc_norm (env' := [_, _, _, _, _, _, _, _, _, _, _]) (H' := []) rfl rfl ?_
 refine vs (wr ?_)
 refine w_opH (v := .ptr 0 0 0) (env' := _) (H2 := [.arr 42 2 [[_, _]]]) rfl rfl rfl rfl (fun _ h => h) (v11 rfl ?_)
 refine wN rfl rfl rfl (v11 rfl ?_)
 refine we rfl (vs (vs (wr ?_)))
 refine wN rfl rfl rfl (v11 rfl ?_)
 refine w_callI (env' := _) rfl rfl rfl (by kernel_rfl) rfl (by repeat' first | exact IsL.lend ‹_› | exact IsL.lend0 ‹_› | refine mapL_cons ?_ ?_ | refine lend_agg ?_ | rfl) (sSound G x l hx hl) rfl (v11 rfl ?_)
 refine wN rfl rfl rfl (v11 rfl ?_)
 refine we rfl ?_
 refine vc_cond rfl (fun hc6 => ?_) (fun hc6 => ?_)
 ·
  have hs : soundR l = false := by simpa using hc6
  refine vs (wr ?_)
  refine wN (v := .agg [_, _]) rfl rfl rfl (v11 rfl ?_)
  refine w_op0N (H2 := [.arr 42 2 [[_, _]]]) rfl rfl rfl (fun _ h => h) ?_
  refine wN rfl rfl rfl (v11 rfl ?_)
  refine we rfl (vc_ret (r_then (r_fn rfl ?_)))
  rw [copyR, if_neg (by rw [hs]; decide)]
  rfl
 ·
  have hs : soundR l = true := by simpa using hc6
  refine vc_skip (n_then (vs (wr ?_)))
  refine w_callI (env' := _) rfl rfl rfl (by kernel_rfl) rfl (by repeat' first | exact IsL.lend ‹_› | exact IsL.lend0 ‹_› | refine mapL_cons ?_ ?_ | refine lend_agg ?_ | rfl) (bBlankF G) rfl (v11 rfl ?_)
  refine wN rfl rfl rfl (v11 rfl ?_)
  refine w_callI (env' := _) rfl rfl rfl (by kernel_rfl) rfl (by repeat' first | exact IsL.lend ‹_› | exact IsL.lend0 ‹_› | refine mapL_cons ?_ ?_ | refine lend_agg ?_ | rfl) (bForward G 0 .loose (shRows zeroSh) x l hx hl (Int.le_refl 0) (by rw [shRows_len]; exact List.length_replicate ..) (pagesIs zeroSh_ok) (by rw [shOf_shRows]; exact zeroSh_ok) (sound_in hx hs)) rfl (v11 rfl ?_)
  refine w_op0N (H2 := [.arr 42 2 [[_, _]]]) rfl rfl rfl (fun _ h => h) ?_
  refine wN rfl rfl rfl (v11 rfl ?_)
  refine we rfl (vc_ret (r_fn rfl ?_))
  rw [copyR, if_pos hs, shOf_shRows]
  rfl
set_option maxHeartbeats 8000000 in
theorem bRecover (G : Glob) (last0 : Int) (pages : AV) (hPL : IsL pages) (hv : pages.isVal = true) (hlen : (lrows pages).length < 9223372036854775808) (hp : ∀ r ∈ lrows pages, PageOk r) (x : AV) (l : List Rc) (hx : Recs x l) (hl : l.length ≤ 1000000) : Vi.Fn Tryz.prog G 20 [.agg [.int .i64 last0, pages], x] (recR last0 (lrows pages) l) := by
 have hL := hx.isL
 have hxl : (lrows x).length = l.length := by rw [hx.rows]; simp
 refine fn_body (fun _ => .iso) Tryz.func20 rfl ?_
 refine vc_norm (env' := (_ :: _ :: _ :: _ :: _ :: _ :: _ :: _ :: _ :: _ :: _ :: _ :: _ :: _ :: _ :: _ :: _ :: _ :: _ :: _ :: _ :: _ :: _ :: _ :: _ :: _ :: [])) (H' := []) rfl rfl ?_
 refine vs (wr ?_)
 refine w_opH (v := .ptr 0 0 0) (env' := _) (H2 := [.arr 42 2 [[_, _]]]) rfl rfl rfl rfl (fun _ h => h) (v26 rfl ?_)
 refine w_opH (v := .ptr 1 0 0) (env' := _) (H2 := [.arr 42 2 [[_, _]], .arr 42 2 [[_, _]]]) rfl rfl rfl rfl (fun _ h => h) (v26 rfl ?_)
 refine wN rfl rfl rfl (v26 rfl ?_)
 refine we rfl (vs (vc_block (vs (wr ?_))))
 refine wN (v := .agg [_, _]) rfl rfl rfl (v26 rfl ?_)
 refine w_callI (env' := _) rfl rfl rfl (by kernel_rfl) rfl (by repeat' first | exact IsL.lend ‹_› | exact IsL.lend0 ‹_› | refine mapL_cons ?_ ?_ | refine lend_agg ?_ | rfl) (t11 G last0 pages hPL hv hlen (fun r hr => by obtain ⟨b, s, rfl, hb⟩ := hp r hr; exact ⟨b, s, rfl, hb.1⟩)) rfl (v26 rfl ?_)
 iterate 2 refine wN rfl rfl rfl (v26 rfl ?_)
 refine we rfl ?_
 refine vc_cond rfl (fun hc6 => ?_) (fun hc6 => ?_)
 ·
  refine vs (wr ?_)
  refine wN (v := .agg [_, _]) rfl rfl rfl (v26 rfl ?_)
  refine w_op0N (H2 := [.arr 42 2 [[_, _]], .arr 42 2 [[_, _]]]) rfl rfl rfl (fun _ h => h) ?_
  refine wN rfl rfl rfl (v26 rfl ?_)
  refine we rfl (vc_ret (r_block (r_then (r_fn rfl ?_))))
  have hval : validB last0 (lrows pages) = false := by simpa using hc6
  show retv _ _ = some (recR last0 (lrows pages) l)
  rw [recR, if_neg (by rw [hval]; decide)]
  rfl
 ·
  have hval : validB last0 (lrows pages) = true := by simpa using hc6
  refine vs (wr ?_)
  refine wN rfl rfl rfl (v26 rfl ?_)
  refine w_callI (env' := _) rfl rfl rfl (by kernel_rfl) rfl (by repeat' first | exact IsL.lend ‹_› | exact IsL.lend0 ‹_› | refine mapL_cons ?_ ?_ | refine lend_agg ?_ | rfl) (sSound G x l hx hl) rfl (v26 rfl ?_)
  iterate 2 refine wN rfl rfl rfl (v26 rfl ?_)
  refine we rfl ?_
  refine vc_cond rfl (fun hc11 => ?_) (fun hc11 => ?_)
  ·
   refine vs (wr ?_)
   refine wN (v := .agg [_, _]) rfl rfl rfl (v26 rfl ?_)
   refine w_op0N (H2 := [.arr 42 2 [[_, _]], .arr 42 2 [[_, _]]]) rfl rfl rfl (fun _ h => h) ?_
   refine wN rfl rfl rfl (v26 rfl ?_)
   refine we rfl (vc_ret (r_block (r_then (r_fn rfl ?_))))
   have hs : soundR l = false := by simpa using hc11
   show retv _ _ = some (recR last0 (lrows pages) l)
   rw [recR, if_pos hval, if_neg (by rw [hs]; decide)]
   rfl
  ·
   have hs : soundR l = true := by simpa using hc11
   refine vs (wr ?_)
   refine wN (v := .ptr 0 0 0) rfl rfl rfl (v26 rfl ?_)
   iterate 2 refine wN rfl rfl rfl (v26 rfl ?_)
   first | refine wN rfl rfl rfl (v26 rfl ?_) | refine x_len rfl rfl ‹_› Tryz.underlying43 rfl (v26 rfl ?_)
   iterate 2 refine wN rfl rfl rfl (v26 rfl ?_)
   refine we rfl ?_
   refine vc_cond rfl (fun hc16 => ?_) (fun hc16 => ?_)
   ·
    refine vs (wr ?_)
    refine wN (v := .agg [_, _]) rfl rfl rfl (v26 rfl ?_)
    refine w_op0N (H2 := [.arr 42 2 [[_, _]], .arr 42 2 [[_, _]]]) rfl rfl rfl (fun _ h => h) ?_
    refine wN rfl rfl rfl (v26 rfl ?_)
    refine we rfl (vc_ret (r_block (r_then (r_fn rfl ?_))))
    have hgt : last0 > l.length := by have := of_decide_eq_true hc16; rw [hxl] at this; omega
    show retv _ _ = some (recR last0 (lrows pages) l)
    rw [recR, if_pos hval, if_pos hs, if_pos hgt]
    rfl
   ·
    have hle : ¬ last0 > l.length := by have := of_decide_eq_false hc16; rw [hxl] at this; omega
    refine vc_skip (n_block (n_then (vs ?_)))
    obtain ⟨h120, hne, hPI, hSh⟩ := valid_pages hval hp
    have h0 : 0 ≤ last0 := by simp only [validB, Bool.and_eq_true, decide_eq_true_eq] at hval; exact hval.1.1.1
    obtain ⟨tg, rows, rfl⟩ : ∃ tg rows, pages = .list tg rows := by
     rcases hPL with rfl | ⟨t, r, rfl⟩
     · exact absurd rfl hne
     · exact ⟨t, r, rfl⟩
    have hfw := bForward G last0 tg rows x l hx hl h0 h120 hPI hSh (sound_in hx hs)
    refine wr ?_
    refine wN (v := .agg [_, _]) rfl rfl rfl (v26 rfl ?_)
    refine wN rfl rfl rfl (v26 rfl ?_)
    refine w_callI (env' := _) rfl rfl rfl (by kernel_rfl) rfl (by repeat' first | exact IsL.lend ‹_› | exact IsL.lend0 ‹_› | refine mapL_cons ?_ ?_ | refine lend_agg ?_ | rfl) (hfw) rfl (v26 rfl ?_)
    refine w_op0N (H2 := [.arr 42 2 [[_, _]], .arr 42 2 [[_, _]]]) rfl rfl rfl (fun _ h => h) ?_
    refine wN rfl rfl rfl (v26 rfl ?_)
    refine we rfl (vc_ret (r_fn rfl ?_))
    show retv _ _ = some (recR last0 rows l)
    have hv2 : validB last0 rows = true := hval
    rw [recR, if_pos hv2, if_pos hs, if_neg hle]
    rfl
end Lay
end Go.Vi
namespace Go.Vi
open Go Go.Vi Go.Proofs
attribute [local irreducible] vops vopsD vc
namespace Lay
def pagesOf (s : St) : List Sheet := (List.range 120).map fun p : Nat => (s.page (p : Int), s.stamp (p : Int))
theorem pagesOf_at {s : St} {p : Nat} (h : p < 120) : (pagesOf s)[p]? = some (s.page p, s.stamp p) := by
 rw [pagesOf, List.getElem?_map, List.getElem?_range h]; rfl
theorem pagesOf_len {s : St} : (pagesOf s).length = 120 := by simp [pagesOf]
theorem pagesOf_add {s : St} {r : Rc} (hi : r.In) : pagesOf (s.add r) = layR (pagesOf s) r s.recs.length := by
 have hg0 := hi.g0
 have hg1 := hi.g1
 by_cases hl : laysB r = true
 · have hp : r.page.toNat < 120 := by omega
   have hpp : ((r.page.toNat : Nat) : Int) = r.page := by omega
   rw [layR, if_pos hl, updS_at (pagesOf_at hp)]
   apply List.ext_getElem?
   intro p
   by_cases h : p < 120
   · rw [pagesOf_at h]
     by_cases e : r.page.toNat = p
     · subst e
       rw [List.getElem?_set_self (by rw [pagesOf_len]; exact h), hpp]
       simp only [St.add, hl, if_true, St.lay, fset_self]
       rfl
     · rw [List.getElem?_set_ne e, pagesOf_at h]
       have hne : (p : Int) ≠ r.page := by omega
       simp only [St.add, hl, if_true, St.lay, fset_ne hne]
   · rw [List.getElem?_eq_none (by rw [pagesOf_len]; omega), List.getElem?_eq_none (by rw [List.length_set, pagesOf_len]; omega)]
 · rw [layR, if_neg hl]
   unfold pagesOf
   simp only [St.add, hl]
   rfl
theorem pagesOf_new : pagesOf St.new = zeroSh := by
 apply List.ext_getElem?
 intro p
 by_cases h : p < 120
 · rw [pagesOf_at h, zeroSh, List.getElem?_replicate, if_pos h]; rfl
 · rw [List.getElem?_eq_none (by rw [pagesOf_len]; omega), List.getElem?_eq_none (by rw [zeroSh, List.length_replicate]; omega)]
theorem pages_upto {l : List Rc} : ∀ {n : Nat} {s : St}, n ≤ l.length → St.new.of (l.take n) = some s → pagesOf s = fwd l zeroSh 0 n
 | 0, s, _, h => by simp only [List.take_zero, St.of] at h; cases h; exact pagesOf_new
 | n + 1, s, hn, h => by
   obtain ⟨r, hr⟩ : ∃ r, l[n]? = some r := ⟨_, List.getElem?_eq_getElem (by omega)⟩
   cases h0 : St.new.of (l.take n) with
   | none =>
     have : l.take n = (l.take (n + 1)).take n := by rw [List.take_take, Nat.min_eq_left (by omega)]
     rw [this] at h0
     rw [of_none n h0] at h
     cases h
   | some s0 =>
     rw [of_snoc h0 hr] at h
     split at h
     · rename_i hf
       cases h
       have hlen : s0.recs.length = n := by
        have := congrArg List.length (of_recs h0)
        simp [St.new] at this
        omega
       rw [pagesOf_add (validP_in (follows_valid hf)), pages_upto (by omega) h0, fwd_succ, hlen, Nat.zero_add]
       simp only [stepR, hr]
     · cases h
theorem pages_of {l : List Rc} {s : St} (h : St.new.of l = some s) : pagesOf s = fwd l zeroSh 0 l.length :=
 pages_upto (Nat.le_refl _) (by rw [List.take_length]; exact h)
structure CkI (n : Int) (Hx : Hp) (L : Nat) (pgs : List (List AV)) : Prop where
 r : Hx[0]? = some (.arr 42 2 [[.int .i64 0, .nils]])
 o : Hx[1]? = some (.arr 42 2 [[.int .i64 n, pval L pgs]])
 pgs : (pgs = [] ∧ Hx.length ≤ L) ∨ (pgs ≠ [] ∧ Hx[L]? = some (.arr 95 2 pgs))
 gL : 1 < L
theorem CkI.next {n : Int} {Hx : Hp} {L : Nat} {pgs : List (List AV)} (h : CkI n Hx L pgs) (q : List AV) : CkI n ((Hx.set L .dead ++ [VO.arr 95 2 (pgs ++ [q])]).set 1 (VO.arr 42 2 [[.int .i64 n, .row false Hx.length 0 (pgs.length + 1)]])) Hx.length (pgs ++ [q]) := by
 have h1 := lt_of h.o
 have hg := h.gL
 refine ⟨get_set (get_app (get_set h.r (by omega))) (by omega), ?_, .inr ⟨by simp, get_set ?_ (by omega)⟩, h1⟩
 · rw [show pval Hx.length (pgs ++ [q]) = .row false Hx.length 0 (pgs.length + 1) by simp [pval]]
   exact get_self (get_app (get_set h.o (by omega)))
 · rw [List.getElem?_append_right (by simp)]; simp
theorem ret0_row {H : Hp} {l n T sz : Nat} {b : Bool} {rows : List (List AV)} (h : H[l]? = some (.arr T sz rows)) (hn : rows.length = n) (hv : allVal rows = true) : ret0 H (.row b l 0 n) = some (.list .loose rows) :=
 retD_row h hn (mapL_id fun r hr => mapL_id fun x hx => retD_val (List.all_eq_true.1 (List.all_eq_true.1 hv r hr) x hx))
theorem shRows_val {sh : List Sheet} : allVal (shRows sh) = true := List.all_eq_true.2 fun r hr => by obtain ⟨s, _, rfl⟩ := List.mem_map.1 hr; rfl
theorem layK_full {sh : List Sheet} {pg a : Int} {src : List (List AV)} {k : Nat} (h : src.length ≤ k) : layK sh pg a src k = updS sh pg.toNat fun s => (lay s.1 a.toNat src, s.2) := by
 unfold layK
 rw [List.take_of_length_le h]
theorem FInv.byteStep {q r1 L : Nat} {Hx : Hp} {locs : List Nat} {last0 : Int} {sh : List Sheet} {l k : Nat} {s : Sheet} {pg a : Int} {src : List (List AV)} {x : List AV} (h : FInv q r1 Hx L locs last0 (layK sh pg a src k)) (hs : sh[pg.toNat]? = some s) (hl : locs[pg.toNat]? = some l) (hx : src[k]? = some x) (hb : a.toNat + src.length ≤ s.1.length) :
 FInv q r1 (Hx.set l (.arr 5 1 ((lay s.1 a.toNat (src.take k)).set (a.toNat + k) x))) L locs last0 (layK sh pg a src (k + 1)) := by
 have e : layK sh pg a src (k + 1) = (layK sh pg a src k).set pg.toNat ((lay s.1 a.toNat (src.take k)).set (a.toNat + k) x, s.2) := by
  rw [← lay_next hx hb]
  unfold layK
  rw [updS_at hs, updS_at hs, List.set_set]
 rw [e]
 exact h.byte (s := (lay s.1 a.toNat (src.take k), s.2)) hl (layK_at hs) (by simp)
set_option maxHeartbeats 8000000 in
theorem bCopyR (G : Glob) (x : AV) (l : List Rc) (hx : Recs x l) (hl : l.length ≤ 1000000) : Vi.Fn Tryz.prog G 24 [x] (copyR l) := by
 have hL := hx.isL
 have hxl : (lrows x).length = l.length := by rw [hx.rows]; simp
 refine fn_body (fun o => match o.op with | .call ⟨.builtin .append, _, _⟩ => .shr | _ => .iso) Tryz.func24 rfl ?_
 refine vc_norm (env' := (_ :: _ :: _ :: _ :: _ :: _ :: _ :: _ :: _ :: _ :: _ :: _ :: _ :: _ :: _ :: _ :: _ :: _ :: _ :: _ :: _ :: _ :: _ :: _ :: _ :: _ :: _ :: _ :: _ :: _ :: _ :: _ :: _ :: _ :: _ :: _ :: [])) (H' := []) rfl rfl ?_
 refine vs (wr ?_)
 refine w_opH (v := .ptr 0 0 0) (env' := _) (H2 := [.arr 42 2 [[_, _]]]) rfl rfl rfl rfl (fun _ h => h) (v36 rfl ?_)
 refine wN rfl rfl rfl (v36 rfl ?_)
 refine we rfl (vs (vs (wr ?_)))
 refine wN rfl rfl rfl (v36 rfl ?_)
 refine w_callI (env' := _) rfl rfl rfl (by kernel_rfl) rfl (by repeat' first | exact IsL.lend ‹_› | exact IsL.lend0 ‹_› | refine mapL_cons ?_ ?_ | refine lend_agg ?_ | rfl) (sSoundR G x l hx hl) rfl (v36 rfl ?_)
 refine wN rfl rfl rfl (v36 rfl ?_)
 refine we rfl ?_
 refine vc_cond rfl (fun hc11 => ?_) (fun hc11 => ?_)
 ·
  have hs : soundR l = false := by simpa using hc11
  refine vs (wr ?_)
  refine wN (v := .agg [_, _]) rfl rfl rfl (v36 rfl ?_)
  refine w_op0N (H2 := [.arr 42 2 [[_, _]]]) rfl rfl rfl (fun _ h => h) ?_
  refine wN rfl rfl rfl (v36 rfl ?_)
  refine we rfl (vc_ret (r_then (r_fn rfl ?_)))
  rw [copyR, if_neg (by rw [hs]; decide)]
  rfl
 ·
  have hs : soundR l = true := by simpa using hc11
  obtain ⟨s, he⟩ := sound_some hs
  refine vc_skip (n_then (vs (wr ?_)))
  refine wN rfl rfl rfl (v36 rfl ?_)
  refine wN (v := .int .i64 l.length) rfl ((by rw [← hxl]; exact vlen_isL hL Tryz.underlying43)) rfl (v36 rfl ?_)
  refine wN (v := .agg [_, _]) rfl rfl rfl (v36 rfl ?_)
  refine w_opH (v := .ptr 1 0 0) (env' := _) (H2 := [.arr 42 2 [[_, _]], .arr 42 2 [[_, _]]]) rfl rfl rfl rfl (fun _ h => h) (v36 rfl ?_)
  refine w_op0N (H2 := [.arr 42 2 [[_, _]], .arr 42 2 [[_, _]]]) rfl rfl rfl (fun _ h => h) ?_
  refine we rfl (vs (vs (wr ?_)))
  refine wN rfl rfl rfl (v36 rfl ?_)
  refine we rfl (vc_block ?_)
  refine vc_loopX (α := { a : Nat × Hp × Nat // a.1 ≤ 120 ∧ CkI l.length a.2.1 a.2.2 ((shRows (pagesOf s)).take a.1) }) (fun a => (rnone 5 ++ ([some (.int .i64 (a.1.1 : Nat)), some .undef, some .undef, some .undef] ++ (rnone 7 ++ (rundef 19 ++ ([none])))))) (fun a => a.1.2.1) (fun a => 120 - a.1.1) ⟨(0, _, 2), Nat.zero_le _, ⟨rfl, rfl, .inl ⟨rfl, Nat.le_refl _⟩, show 1 < 2 by decide⟩⟩ (by repeat' first | exact trivial | refine ⟨.inr rfl, ?_⟩ | refine ⟨.inl rfl, ?_⟩ | fail) rfl ?_
  rintro ⟨⟨i, Hx, L⟩, hil, hI⟩ Y0 hY0
  refine vc_norm (env' := (_ :: _ :: _ :: _ :: _ :: (.int .i64 (i : Int)) :: _ :: _ :: _ :: _ :: _ :: _ :: _ :: _ :: _ :: _ :: _ :: _ :: _ :: _ :: _ :: _ :: _ :: _ :: _ :: _ :: _ :: _ :: _ :: _ :: _ :: _ :: _ :: _ :: _ :: _ :: [])) (H' := Hx) rfl rfl ?_
  replace hil : i ≤ 120 := hil
  replace hI : CkI l.length Hx L ((shRows (pagesOf s)).take i) := hI
  refine vs (vs (wr ?_))
  refine wN rfl rfl rfl (v36 rfl ?_)
  refine wN (v := .bool (decide ((i : Int) < 120))) rfl (rfl) rfl (v36 rfl ?_)
  refine we rfl ?_
  refine vc_cond rfl (fun hc17 => ?_) (fun hc17 => ?_)
  ·
   have hlt : i < 120 := by have := of_decide_eq_true hc17; omega
   have hnx : (shRows (pagesOf s)).take (i + 1) = ((shRows (pagesOf s)).take i) ++ [[.list .loose (s.page i), .int .i64 (s.stamp i)]] := by rw [List.take_add_one, shRows, List.getElem?_map, pagesOf_at hlt]; rfl
   refine vc_skip (n_then (vs (vc_block (vs (wr ?_)))))
   iterate 2 refine wN rfl rfl rfl (v36 rfl ?_)
   refine w_callI (env' := _) rfl rfl rfl (by kernel_rfl) rfl (by repeat' first | exact IsL.lend ‹_› | exact IsL.lend0 ‹_› | refine mapL_cons ?_ ?_ | refine lend_agg ?_ | rfl) (sPageR G x l hx hl s he i (by omega) (by omega)) rfl (v36 rfl ?_)
   iterate 7 refine wN rfl rfl rfl (v36 rfl ?_)
   refine we rfl (wr ?_)
   refine wN (v := .ptr 1 0 1) rfl rfl rfl (v36 rfl ?_)
   refine wN (v := pval L ((shRows (pagesOf s)).take i)) rfl (g_load hI.o rfl rfl) rfl (v36 rfl ?_)
   iterate 2 refine wN rfl rfl rfl (v36 rfl ?_)
   refine wN (v := .agg [.list .loose (s.page i), .int .i64 (s.stamp i)]) rfl (rfl) rfl (v36 rfl ?_)
   refine wN (v := .list .tight [[.list .loose (s.page i), .int .i64 (s.stamp i)]]) rfl (rfl) rfl (v36 rfl ?_)
   refine w_opH (v := .row false Hx.length 0 (((shRows (pagesOf s)).take i).length + 1)) (env' := _) (H2 := (Hx.set L .dead ++ [VO.arr 95 2 (((shRows (pagesOf s)).take i) ++ [[.list .loose (s.page i), .int .i64 (s.stamp i)]])])) rfl (accR (n := Hx.length) (H := Hx) (L := L) (pgs := ((shRows (pagesOf s)).take i)) (news := [[.list .loose (s.page i), .int .i64 (s.stamp i)]]) (x := .list .tight [[.list .loose (s.page i), .int .i64 (s.stamp i)]]) (e := 95) hI.pgs rfl el40 Tryz.underlying40 rfl zc95 by95 rfl rfl (by decide) (by decide) rfl rfl (by simp) (by simp; omega)) rfl (rfl) (fun _ h => h) (v36 rfl ?_)
   refine wN (v := .ptr 1 0 1) rfl rfl rfl (v36 rfl ?_)
   refine w_op0N (H2 := _) rfl (g_store (get_app (get_set hI.o (by have := hI.gL; omega))) rfl rfl sz40 ⟨rfl, by simp, by decide⟩) (rfl) (fun _ h => h) ?_
   refine w_endB rfl (n_then (wr ?_))
   iterate 3 refine wN rfl rfl rfl (v36 rfl ?_)
   refine we rfl ?_
   refine hY0 ⟨(i + 1, _, Hx.length), hlt, by show CkI _ _ _ ((shRows (pagesOf s)).take (i + 1)); rw [hnx]; exact hI.next _⟩ (by simp only; omega) _ _ ?_ rfl
   repeat' first | exact trivial | refine ⟨.inr rfl, ?_⟩ | refine ⟨.inl rfl, ?_⟩ | refine ⟨.inl ?_, ?_⟩ | fail
   all_goals first | exact (int_succ (by omega)).symm
  ·
   have hge : 120 ≤ i := by have := of_decide_eq_false hc17; omega
   have hfull : ((shRows (pagesOf s)).take i) = shRows (pagesOf s) := List.take_of_length_le (by rw [shRows_len, pagesOf_len]; exact hge)
   rw [hfull] at hI
   have hne : shRows (pagesOf s) ≠ [] := fun e => by have := congrArg List.length e; rw [shRows_len, pagesOf_len] at this; cases this
   have hob := (hI.pgs.resolve_left fun c => hne c.1).2
   have ho2 : Hx[1]? = some (VO.arr 42 2 [[.int .i64 l.length, .row false L 0 120]]) := by have := hI.o; rw [pval, if_neg hne, shRows_len, pagesOf_len] at this; exact this
   refine vc_exit (x_then (x_then (x_same (n_then (vs (wr ?_))))))
   refine wN (v := .agg [.int .i64 l.length, .row false L 0 120]) rfl (g_load ho2 rfl rfl) rfl (v36 rfl ?_)
   refine w_op0N (H2 := (Hx.set 0 (VO.arr 42 2 [[.int .i64 l.length, .row false L 0 120]]))) rfl (g_store hI.r rfl rfl sz42 ⟨rfl, by simp, by decide⟩) (rfl) (fun _ h => h) ?_
   refine wN rfl rfl rfl (v36 rfl ?_)
   refine we rfl (vc_ret ?_)
   refine r_fn (vres_cell_tmp rfl rfl (g_vload (get_self hI.r) rfl rfl) rfl) ?_
   rw [copyR, if_pos hs, ← pages_of he]
   refine ret_tup2 ?_ rfl
   have hob2 := get_set (o' := VO.arr 42 2 [[.int .i64 l.length, .row false L 0 120]]) hob (l' := 0) (by have := hI.gL; omega)
   show (mapL (ret0 _) [.int .i64 l.length, .row false L 0 120]).map AV.agg = _
   simp only [mapL, ret0_row hob2 (by rw [shRows_len, pagesOf_len]) shRows_val]
   rfl
set_option maxHeartbeats 8000000 in
theorem bRecoverR (G : Glob) (last0 : Int) (pages : AV) (hPL : IsL pages) (hlen : (lrows pages).length < 9223372036854775808) (hp : ∀ r ∈ lrows pages, PageOk r) (x : AV) (l : List Rc) (hx : Recs x l) (hl : l.length ≤ 1000000) : Vi.Fn Tryz.prog G 21 [.agg [.int .i64 last0, pages], x] (recR last0 (lrows pages) l) := by
 have hL := hx.isL
 have hxl : (lrows x).length = l.length := by rw [hx.rows]; simp
 refine fn_body (fun o => match o.op with | .call ⟨.value (.func f), _, _⟩ => if f = 56 then .shr else .iso | _ => .iso) Tryz.func21 rfl ?_
 refine vc_norm (env' := (_ :: _ :: _ :: _ :: _ :: _ :: _ :: _ :: _ :: _ :: _ :: _ :: _ :: _ :: _ :: _ :: _ :: _ :: _ :: _ :: _ :: _ :: _ :: _ :: _ :: _ :: _ :: _ :: _ :: _ :: _ :: _ :: _ :: _ :: _ :: _ :: _ :: _ :: _ :: _ :: _ :: _ :: _ :: _ :: _ :: _ :: _ :: _ :: _ :: _ :: _ :: _ :: _ :: _ :: _ :: _ :: _ :: _ :: _ :: _ :: _ :: _ :: _ :: _ :: _ :: _ :: _ :: _ :: _ :: _ :: _ :: _ :: _ :: _ :: _ :: _ :: _ :: _ :: _ :: [])) (H' := []) rfl rfl ?_
 refine vs (wr ?_)
 refine w_opH (v := .ptr 0 0 0) (env' := _) (H2 := [.arr 42 2 [[_, _]]]) rfl rfl rfl rfl (fun _ h => h) (v79 rfl ?_)
 refine w_opH (v := .ptr 1 0 0) (env' := _) (H2 := [.arr 42 2 [[_, _]], .arr 42 2 [[_, _]]]) rfl rfl rfl rfl (fun _ h => h) (v79 rfl ?_)
 refine wN rfl rfl rfl (v79 rfl ?_)
 refine we rfl (vs (vc_block (vs (wr ?_))))
 refine wN (v := .agg [_, _]) rfl rfl rfl (v79 rfl ?_)
 refine w_callI (env' := _) rfl rfl rfl (by kernel_rfl) rfl (by repeat' first | exact IsL.lend ‹_› | exact IsL.lend0 ‹_› | refine mapL_cons ?_ ?_ | refine lend_agg ?_ | rfl) (t16 G last0 pages hPL hlen hp) rfl (v79 rfl ?_)
 iterate 2 refine wN rfl rfl rfl (v79 rfl ?_)
 refine we rfl ?_
 refine vc_cond rfl (fun hc10 => ?_) (fun hc10 => ?_)
 ·
  refine vs (wr ?_)
  refine wN (v := .agg [_, _]) rfl rfl rfl (v79 rfl ?_)
  refine w_op0N (H2 := [.arr 42 2 [[_, _]], .arr 42 2 [[_, _]]]) rfl rfl rfl (fun _ h => h) ?_
  refine wN rfl rfl rfl (v79 rfl ?_)
  refine we rfl (vc_ret (r_block (r_then (r_fn rfl ?_))))
  have hval : validB last0 (lrows pages) = false := by simpa using hc10
  show retv _ _ = some (recR last0 (lrows pages) l)
  rw [recR, if_neg (by rw [hval]; decide)]
  rfl
 ·
  have hval : validB last0 (lrows pages) = true := by simpa using hc10
  refine vs (wr ?_)
  refine wN rfl rfl rfl (v79 rfl ?_)
  refine w_callI (env' := _) rfl rfl rfl (by kernel_rfl) rfl (by repeat' first | exact IsL.lend ‹_› | exact IsL.lend0 ‹_› | refine mapL_cons ?_ ?_ | refine lend_agg ?_ | rfl) (sSoundR G x l hx hl) rfl (v79 rfl ?_)
  iterate 2 refine wN rfl rfl rfl (v79 rfl ?_)
  refine we rfl ?_
  refine vc_cond rfl (fun hc15 => ?_) (fun hc15 => ?_)
  ·
   refine vs (wr ?_)
   refine wN (v := .agg [_, _]) rfl rfl rfl (v79 rfl ?_)
   refine w_op0N (H2 := [.arr 42 2 [[_, _]], .arr 42 2 [[_, _]]]) rfl rfl rfl (fun _ h => h) ?_
   refine wN rfl rfl rfl (v79 rfl ?_)
   refine we rfl (vc_ret (r_block (r_then (r_fn rfl ?_))))
   have hs : soundR l = false := by simpa using hc15
   show retv _ _ = some (recR last0 (lrows pages) l)
   rw [recR, if_pos hval, if_neg (by rw [hs]; decide)]
   rfl
  ·
   have hs : soundR l = true := by simpa using hc15
   refine vs (wr ?_)
   refine wN (v := .ptr 0 0 0) rfl rfl rfl (v79 rfl ?_)
   iterate 2 refine wN rfl rfl rfl (v79 rfl ?_)
   first | refine wN rfl rfl rfl (v79 rfl ?_) | refine x_len rfl rfl ‹_› Tryz.underlying43 rfl (v79 rfl ?_)
   iterate 2 refine wN rfl rfl rfl (v79 rfl ?_)
   refine we rfl ?_
   refine vc_cond rfl (fun hc20 => ?_) (fun hc20 => ?_)
   ·
    refine vs (wr ?_)
    refine wN (v := .agg [_, _]) rfl rfl rfl (v79 rfl ?_)
    refine w_op0N (H2 := [.arr 42 2 [[_, _]], .arr 42 2 [[_, _]]]) rfl rfl rfl (fun _ h => h) ?_
    refine wN rfl rfl rfl (v79 rfl ?_)
    refine we rfl (vc_ret (r_block (r_then (r_fn rfl ?_))))
    have hgt : last0 > l.length := by have := of_decide_eq_true hc20; rw [hxl] at this; omega
    show retv _ _ = some (recR last0 (lrows pages) l)
    rw [recR, if_pos hval, if_pos hs, if_pos hgt]
    rfl
   ·
    have hle : ¬ last0 > l.length := by have := of_decide_eq_false hc20; rw [hxl] at this; omega
    refine vc_skip (n_block (n_then (vs ?_)))
    obtain ⟨h120, hne, hPI, hSh⟩ := valid_pages hval hp
    have h0 : 0 ≤ last0 := by simp only [validB, Bool.and_eq_true, decide_eq_true_eq] at hval; exact hval.1.1.1
    obtain ⟨tg, rows, rfl⟩ : ∃ tg rows, pages = .list tg rows := by
     rcases hPL with rfl | ⟨t, r, rfl⟩
     · exact absurd rfl hne
     · exact ⟨t, r, rfl⟩
    replace h120 : rows.length = 120 := h120
    replace hne : rows ≠ [] := hne
    replace hSh : ShOk (shOf rows) := hSh
    have hR := sound_in hx hs
    refine wr ?_
    refine wN (v := .agg [_, _]) rfl rfl rfl (v79 rfl ?_)
    refine w_callS rfl rfl rfl (by kernel_rfl) rfl (t17 G _ last0 tg rows hne (by omega) hPI) ?_
    rintro _ H6 ⟨L, locs, rfl, hI, hLl, hlocs, hpre⟩
    have h60 := hpre 0 _ rfl
    have h61 := hpre 1 _ rfl
    rw [h120]
    refine v79 rfl ?_
    refine w_opH (v := .ptr H6.length 0 0) (env' := _) (H2 := (H6 ++ [VO.arr 42 2 [[.int .i64 0, .nils]]])) rfl (g_alloc z42 rfl rfl) rfl (rfl) (fun _ h => h) (v79 rfl ?_)
    refine w_op0N (H2 := (H6 ++ [VO.arr 42 2 [[.int .i64 last0, .row false L 0 120]]])) rfl (g_store get_last rfl rfl sz42 ⟨rfl, by simp, by decide⟩) (set_last) (fun _ h => h) ?_
    refine we rfl (vs (vs ?_))
    have hq1 : H6.length ≠ 1 := by have := lt_of h61; omega
    have hlcl : ∀ z ∈ locs, z < H6.length := fun z hz => by
     obtain ⟨j, hj⟩ := List.mem_iff_getElem?.1 hz
     have hjs : j < (shOf rows).length := by have := (List.getElem?_eq_some_iff.1 hj).1; have := hI.len; omega
     exact lt_of (hI.byt j _ _ hj (List.getElem?_eq_getElem hjs))
    have hLH : L < H6.length := by obtain ⟨r6, e6, _, _⟩ := hI.row; exact lt_of e6
    have hF0 : FInv H6.length 1 (H6 ++ [VO.arr 42 2 [[.int .i64 last0, .row false L 0 120]]]) L locs last0 (shOf rows) := ⟨hI.app, get_last, get_app h61, by rw [shOf_len, h120], ⟨by omega, by simp at hLl; omega⟩, ⟨fun h => by have := hlcl _ h; omega, fun h => by have := hlocs 1 h; simp at this⟩⟩
    refine wr ?_
    refine wN (v := .ptr 0 0 0) rfl rfl rfl (v79 rfl ?_)
    refine wN (v := .int .i64 last0) rfl (g_load (get_app h60) rfl rfl) rfl (v79 rfl ?_)
    refine wN rfl rfl rfl (v79 rfl ?_)
    refine we rfl (vc_block ?_)
    refine vc_loopX (α := { a : Nat × Hp // last0.toNat ≤ a.1 ∧ (a.1 ≤ l.length ∨ a.1 = last0.toNat) ∧ FInv H6.length 1 a.2 L locs last0 (fwd l (shOf rows) last0.toNat (a.1 - last0.toNat)) ∧ ShOk (fwd l (shOf rows) last0.toNat (a.1 - last0.toNat)) }) (fun a => (rnone 7 ++ ([some (.int .i64 (a.1.1 : Nat)), some .undef, some .undef] ++ (rnone 21 ++ (rundef 44 ++ (rnone 4)))))) (fun a => a.1.2) (fun a => l.length - a.1.1) ⟨(last0.toNat, _), Nat.le_refl _, .inr rfl, by simpa [fwd_zero] using hF0, by simpa [fwd_zero] using hSh⟩ (by repeat' first | exact trivial | refine ⟨.inr rfl, ?_⟩ | refine ⟨.inl rfl, ?_⟩ | refine ⟨.inl (congrArg (AV.int .i64) (show ((last0.toNat : Nat) : Int) = last0 by omega)), ?_⟩ | fail) rfl ?_
    rintro ⟨⟨i, Hx⟩, hil, hiu, hF, hSx⟩ Y0 hY0
    refine vc_norm (env' := (_ :: _ :: _ :: _ :: _ :: _ :: _ :: (.int .i64 (i : Int)) :: _ :: _ :: _ :: _ :: _ :: _ :: _ :: _ :: _ :: _ :: _ :: _ :: _ :: _ :: _ :: _ :: _ :: _ :: _ :: _ :: _ :: _ :: _ :: _ :: _ :: _ :: _ :: _ :: _ :: _ :: _ :: _ :: _ :: _ :: _ :: _ :: _ :: _ :: _ :: _ :: _ :: _ :: _ :: _ :: _ :: _ :: _ :: _ :: _ :: _ :: _ :: _ :: _ :: _ :: _ :: _ :: _ :: _ :: _ :: _ :: _ :: _ :: _ :: _ :: _ :: _ :: _ :: _ :: _ :: _ :: _ :: [])) (H' := Hx) rfl rfl ?_
    replace hil : last0.toNat ≤ i := hil
    replace hF : FInv H6.length 1 Hx L locs last0 (fwd l (shOf rows) last0.toNat (i - last0.toNat)) := hF
    replace hSx : ShOk (fwd l (shOf rows) last0.toNat (i - last0.toNat)) := hSx
    refine vs (vs (wr ?_))
    iterate 2 refine wN rfl rfl rfl (v79 rfl ?_)
    refine wN (v := .int .i64 l.length) rfl ((by rw [← hxl]; exact vlen_isL hL Tryz.underlying43)) rfl (v79 rfl ?_)
    refine wN rfl rfl rfl (v79 rfl ?_)
    refine we rfl ?_
    refine vc_cond rfl (fun hc34 => ?_) (fun hc34 => ?_)
    ·
     have hlt : i < l.length := by have := of_decide_eq_true hc34; omega
     obtain ⟨r, hr⟩ : ∃ r, l[i]? = some r := ⟨_, List.getElem?_eq_getElem hlt⟩
     have hri := hx.at hr
     have hrm := List.mem_of_getElem? hr
     have hOk := hx.ok r hrm
     have hLa := hOk.aft.1
     have hab := hOk.aft.2.1
     have hIn := (hR r hrm).2
     have hp0 := hIn.p0
     have hp1 := hIn.p1
     have hg0 := hIn.g0
     have hg1 := hIn.g1
     have hna : r.na = (lrows r.aft).length := rfl
     have hst : stepR l (fwd l (shOf rows) last0.toNat (i - last0.toNat)) i = layR (fwd l (shOf rows) last0.toNat (i - last0.toNat)) r i := by simp only [stepR, hr]
     have hsn : fwd l (shOf rows) last0.toNat (i + 1 - last0.toNat) = layR (fwd l (shOf rows) last0.toNat (i - last0.toNat)) r i := by
      rw [show i + 1 - last0.toNat = (i - last0.toNat) + 1 by omega, fwd_succ, show last0.toNat + (i - last0.toNat) = i by omega, hst]
     obtain ⟨lp, s, prow0, hlp, hsp, hpr0, hprp0, hby0⟩ := hF.at (i := r.page.toNat) (by omega)
     have h128 := (hSx s (List.mem_of_getElem? hsp)).1
     refine vc_skip (n_then (vs (vc_block (vs (wr ?_)))))
     iterate 2 refine wN rfl rfl rfl (v79 rfl ?_)
     first | refine wN (v := .iptr _ [_, _, _, _, _, _, _, _, _, _]) rfl rfl rfl (v79 rfl ?_) | (refine x_index rfl rfl ‹_› rfl el43 (by omega) ‹_› rfl (fun bo => ?_); refine v79 rfl ?_)
     refine wN (v := .agg r.row) rfl (rfl) rfl (v79 rfl ?_)
     refine w_opH (v := .ptr Hx.length 0 0) (env' := _) (H2 := (Hx ++ [VO.arr 93 10 [[.int .i64 0, .int .i64 0, .int .i64 0, .int .i64 0, .nils, .nils, .int .i64 0, .int .i64 0, .str ⟨#[]⟩, .nils]]])) rfl (g_alloc zr93b rfl rfl) rfl (rfl) (fun _ h => h) (v79 rfl ?_)
     refine w_op0N (H2 := (Hx ++ [VO.arr 93 10 [r.row]])) rfl (g_store get_last rfl rfl sz93 ⟨rfl, by simp [Rc.row], by decide⟩) (set_last) (fun _ h => h) ?_
     refine we rfl (vs (wr ?_))
     refine wN (v := .agg r.row) rfl (g_load get_last rfl rfl) rfl (v79 rfl ?_)
     refine w_callI (env' := _) rfl rfl rfl (by kernel_rfl) rfl (mapL_cons hOk.lend rfl) (sLaysR G r hOk) rfl (v79 rfl ?_)
     refine we rfl ?_
     refine vc_cond rfl (fun hc42 => ?_) (fun hc42 => ?_)
     ·
      have hly : laysB r = true := hc42
      refine vs (vs (wr ?_))
      refine wN rfl rfl rfl (v79 rfl ?_)
      refine we rfl (vc_block ?_)
      refine vc_loopX (α := { a : Nat × Hp // a.1 ≤ (lrows r.aft).length ∧ FInv H6.length 1 a.2 L locs last0 (layK (fwd l (shOf rows) last0.toNat (i - last0.toNat)) r.page r.pos (lrows r.aft) a.1) ∧ a.2[Hx.length]? = some (VO.arr 93 10 [r.row]) }) (fun a => (rnone 9 ++ ([some (.int .i64 (a.1.1 : Nat))] ++ (rnone 33 ++ (rundef 24 ++ (rnone 12)))))) (fun a => a.1.2) (fun a => (lrows r.aft).length - a.1.1) ⟨(0, _), Nat.zero_le _, by rw [layK_zero]; exact hF.app [VO.arr 93 10 [r.row]], get_last⟩ (by repeat' first | exact trivial | refine ⟨.inr rfl, ?_⟩ | refine ⟨.inl rfl, ?_⟩ | fail) rfl ?_
      rintro ⟨⟨k, Hy⟩, hkl, hK, hb⟩ Y1 hY1
      refine vc_norm (env' := (_ :: _ :: _ :: _ :: _ :: _ :: _ :: _ :: _ :: (.int .i64 (k : Int)) :: _ :: _ :: _ :: _ :: _ :: _ :: _ :: _ :: _ :: _ :: _ :: _ :: _ :: _ :: _ :: _ :: _ :: _ :: _ :: _ :: _ :: _ :: _ :: _ :: _ :: _ :: _ :: _ :: _ :: _ :: _ :: _ :: _ :: _ :: _ :: _ :: _ :: _ :: _ :: _ :: _ :: _ :: _ :: _ :: _ :: _ :: _ :: _ :: _ :: _ :: _ :: _ :: _ :: _ :: _ :: _ :: _ :: _ :: _ :: _ :: _ :: _ :: _ :: _ :: _ :: _ :: _ :: _ :: _ :: [])) (H' := Hy) rfl rfl ?_
      replace hK : FInv H6.length 1 Hy L locs last0 (layK (fwd l (shOf rows) last0.toNat (i - last0.toNat)) r.page r.pos (lrows r.aft) k) := hK
      replace hb : Hy[Hx.length]? = some (VO.arr 93 10 [r.row]) := hb
      refine vs (vs (wr ?_))
      refine wN rfl rfl rfl (v79 rfl ?_)
      refine wN (v := .ptr Hx.length 0 5) rfl rfl rfl (v79 rfl ?_)
      refine wN (v := r.aft) rfl (g_load hb rfl rfl) rfl (v79 rfl ?_)
      refine wN (v := .int .i64 ((lrows r.aft).length : Nat)) rfl (vlen_isL hOk.aft.1 Tryz.underlying68) rfl (v79 rfl ?_)
      refine wN rfl rfl rfl (v79 rfl ?_)
      refine we rfl ?_
      refine vc_cond rfl (fun hc47 => ?_) (fun hc47 => ?_)
      ·
       have hlk : k < (lrows r.aft).length := by have := of_decide_eq_true hc47; omega
       obtain ⟨v, hrv⟩ : ∃ v, (lrows r.aft)[k]? = some [.int .u8 v] := by
        obtain ⟨v, hv⟩ := hOk.aft.2.2 _ (List.getElem_mem hlk)
        exact ⟨v, by rw [List.getElem?_eq_getElem hlk, hv]⟩
       obtain ⟨lp2, s2, prow, hlp2, hsp2, hpr, hprp, hby⟩ := hK.at (i := r.page.toNat) (by omega)
       rw [hlp] at hlp2
       cases hlp2
       rw [layK_at hsp] at hsp2
       cases hsp2
       have hll : (lay s.1 r.pos.toNat ((lrows r.aft).take k)).length = 128 := by rw [lay_length (by simp; omega)]; exact h128
       obtain ⟨ru, hru⟩ : ∃ ru, (lay s.1 r.pos.toNat ((lrows r.aft).take k))[(r.pos + (k : Int)).toNat]? = some ru := ⟨_, List.getElem?_eq_getElem (by omega)⟩
       have hak : (r.pos + (k : Int)).toNat = r.pos.toNat + k := by omega
       have hru1 : ∃ v0, ru = [.int .u8 v0] := lay_bs (hSx s (List.mem_of_getElem? hsp)).2 (fun q hq => hOk.aft.2.2 q (List.mem_of_mem_take hq)) ru (List.mem_of_getElem? hru)
       obtain ⟨v0, rfl⟩ := hru1
       refine vc_skip (n_then (vs (vc_block (w_regionD (by kernel_rfl) ?_))))
       refine dN (v := .ptr H6.length 0 1) rfl rfl rfl (d79 rfl ?_)
       refine dN (v := .row false L 0 120) rfl (g_load hK.o rfl rfl) rfl (d79 rfl ?_)
       refine dN (v := .ptr Hx.length 0 2) rfl rfl rfl (d79 rfl ?_)
       refine dN (v := .int .i64 r.page) rfl (g_load hb rfl rfl) rfl (d79 rfl ?_)
       refine dN (v := .ptr L r.page.toNat 0) rfl (g_index0 el40 hpr (by omega) (by omega)) rfl (d79 rfl ?_)
       refine dN rfl rfl rfl (d79 rfl ?_)
       refine dN (v := .row false lp 0 (lay s.1 r.pos.toNat ((lrows r.aft).take k)).length) rfl (g_load hpr hprp rfl) rfl (d79 rfl ?_)
       refine dN (v := .ptr Hx.length 0 3) rfl rfl rfl (d79 rfl ?_)
       refine dN (v := .int .i64 r.pos) rfl (g_load hb rfl rfl) rfl (d79 rfl ?_)
       refine dN rfl rfl rfl (d79 rfl ?_)
       refine dN (v := .int .i64 (r.pos + (k : Int))) rfl (int_eq (i64_small (by omega) (by omega))) rfl (d79 rfl ?_)
       refine dN (v := .ptr Hx.length 0 5) rfl rfl rfl (d79 rfl ?_)
       refine dN (v := r.aft) rfl (g_load hb rfl rfl) rfl (d79 rfl ?_)
       refine dN rfl rfl rfl (d79 rfl ?_)
       first | refine dN rfl rfl rfl (d79 rfl ?_) | (refine y_index rfl rfl ‹_› rfl el68 (by omega) ‹_› rfl (fun bo => ?_); refine d79 rfl ?_)
       refine dN rfl rfl rfl (d79 rfl ?_)
       refine dN (v := .ptr lp (r.pos + (k : Int)).toNat 0) rfl (g_index0 el68 hby (by omega) (by omega)) rfl (d79 rfl ?_)
       refine d_op0 (H2 := (Hy.set lp (VO.arr 5 1 ((lay s.1 r.pos.toNat ((lrows r.aft).take k)).set (r.pos + (k : Int)).toNat [.int .u8 v])))) rfl (g_store hby hru rfl sz5 ⟨rfl, by simp, by decide⟩) (.inl rfl) (rfl) (fun _ h => h) ?_
       refine d_endB rfl (n_then (wr ?_))
       iterate 3 refine wN rfl rfl rfl (v79 rfl ?_)
       refine we rfl ?_
       refine hY1 ⟨(k + 1, _), hlk, by rw [hak]; exact hK.byteStep hsp hlp hrv (by omega), get_set hb (by have := lt_of hby0; omega)⟩ (by simp only; omega) _ _ ?_ rfl
       repeat' first | exact trivial | refine ⟨.inr rfl, ?_⟩ | refine ⟨.inl rfl, ?_⟩ | refine ⟨.inl ?_, ?_⟩ | fail
       all_goals first | exact (int_succ (by omega)).symm
      ·
       have hgk : (lrows r.aft).length ≤ k := by have := of_decide_eq_false hc47; omega
       rw [layK_full hgk, updS_at hsp] at hK
       refine vc_exit (x_then (x_then (x_same (n_then ?_))))
       obtain ⟨lp2, s2, prow, hlp2, hsp2, hpr, hprp, hby⟩ := hK.at (i := r.page.toNat) (by omega)
       rw [hlp] at hlp2
       cases hlp2
       have hs21 : s2.1 = lay s.1 r.pos.toNat (lrows r.aft) := by
        have h := hsp2
        rw [List.getElem?_set_self (List.getElem?_eq_some_iff.1 hsp).1] at h
        cases h
        rfl
       refine wr ?_
       refine wN (v := .ptr H6.length 0 1) rfl rfl rfl (v79 rfl ?_)
       refine wN (v := .row false L 0 120) rfl (g_load hK.o rfl rfl) rfl (v79 rfl ?_)
       refine wN (v := .ptr Hx.length 0 2) rfl rfl rfl (v79 rfl ?_)
       refine wN (v := .int .i64 r.page) rfl (g_load hb rfl rfl) rfl (v79 rfl ?_)
       refine wN rfl rfl rfl (v79 rfl ?_)
       refine wN (v := .int .i64 ((i : Int) + 1)) rfl (int_eq (i64_small (by omega) (by omega))) rfl (v79 rfl ?_)
       refine wN (v := .ptr L r.page.toNat 0) rfl (g_index0 el40 hpr (by omega) (by omega)) rfl (v79 rfl ?_)
       refine wN rfl rfl rfl (v79 rfl ?_)
       refine w_op0N (H2 := (Hy.set L (VO.arr 95 2 (prow.set r.page.toNat [.row false lp 0 s2.1.length, .int .i64 ((i : Int) + 1)])))) rfl (g_store hpr hprp rfl sz3 ⟨rfl, by simp, by decide⟩) (rfl) (fun _ h => h) ?_
       refine w_endB rfl (n_then (wr ?_))
       iterate 3 refine wN rfl rfl rfl (v79 rfl ?_)
       refine we rfl ?_
       refine hY0 ⟨(i + 1, _), by omega, .inl hlt, by show FInv H6.length 1 _ L locs last0 (fwd l (shOf rows) last0.toNat (i + 1 - last0.toNat)); rw [hsn, layR_set hly hsp, ← hs21]; rw [← hs21] at hK hsp2; exact hK.stamp (k := (i : Int) + 1) hpr hlp hsp2, by show ShOk (fwd l (shOf rows) last0.toNat (i + 1 - last0.toNat)); rw [hsn]; exact layR_ok hSx hOk hIn⟩ (by simp only; omega) _ _ ?_ rfl
       repeat' first | exact trivial | refine ⟨.inr rfl, ?_⟩ | refine ⟨.inl rfl, ?_⟩ | refine ⟨.inl ?_, ?_⟩ | fail
       all_goals first | exact (int_succ (by omega)).symm
     ·
      have hly : laysB r = false := hc42
      refine vc_skip (n_block (n_then (wr ?_)))
      iterate 3 refine wN rfl rfl rfl (v79 rfl ?_)
      refine we rfl ?_
      refine hY0 ⟨(i + 1, _), by omega, .inl hlt, by show FInv H6.length 1 _ L locs last0 (fwd l (shOf rows) last0.toNat (i + 1 - last0.toNat)); rw [hsn, layR_no hly]; exact hF.app [VO.arr 93 10 [r.row]], by show ShOk (fwd l (shOf rows) last0.toNat (i + 1 - last0.toNat)); rw [hsn]; exact layR_ok hSx hOk hIn⟩ (by simp only; omega) _ _ ?_ rfl
      repeat' first | exact trivial | refine ⟨.inr rfl, ?_⟩ | refine ⟨.inl rfl, ?_⟩ | refine ⟨.inl ?_, ?_⟩ | fail
      all_goals first | exact (int_succ (by omega)).symm
    ·
     have hge : l.length ≤ i := by have := of_decide_eq_false hc34; omega
     refine vc_exit (x_then (x_then (x_same (n_then (vs (wr ?_))))))
     refine wN rfl rfl rfl (v79 rfl ?_)
     refine wN (v := .int .i64 l.length) rfl ((by rw [← hxl]; exact vlen_isL hL Tryz.underlying43)) rfl (v79 rfl ?_)
     refine wN (v := .ptr H6.length 0 0) rfl rfl rfl (v79 rfl ?_)
     refine w_op0N (H2 := (Hx.set H6.length (VO.arr 42 2 [[.int .i64 l.length, .row false L 0 120]]))) rfl (g_store hF.o rfl rfl sz3 ⟨rfl, by simp, by decide⟩) (rfl) (fun _ h => h) ?_
     refine we rfl (vs (wr ?_))
     refine wN (v := .agg [.int .i64 l.length, .row false L 0 120]) rfl (g_load (get_self hF.o) rfl rfl) rfl (v79 rfl ?_)
     refine w_op0N (H2 := ((Hx.set H6.length (VO.arr 42 2 [[.int .i64 l.length, .row false L 0 120]])).set 1 (VO.arr 42 2 [[.int .i64 l.length, .row false L 0 120]]))) rfl (g_store (get_set hF.r hq1) rfl rfl sz42 ⟨rfl, by simp, by decide⟩) (rfl) (fun _ h => h) ?_
     refine wN rfl rfl rfl (v79 rfl ?_)
     refine we rfl (vc_ret ?_)
     refine r_fn (vres_cell_tmp rfl rfl (g_vload (get_self (get_set hF.r hq1)) rfl rfl) rfl) ?_
     have hv2 : validB last0 rows = true := hval
     have hfin : fwd l (shOf rows) last0.toNat (i - last0.toNat) = fwd l (shOf rows) last0.toNat (l.length - last0.toNat) := by rw [show i - last0.toNat = l.length - last0.toNat by omega]
     rw [hfin] at hF hSx
     show retv _ _ = some (recR last0 rows l)
     rw [recR, if_pos hv2, if_pos hs, if_neg hle]
     refine ret_tup2 ?_ rfl
     exact hF.ret hSx
end Lay
end Go.Vi
namespace Go.Vi
open Go Go.Vi Go.Proofs
def calleeZ (o : Oper) : Nat := match o.op with
 | .call { callee := .value (.func f), .. } => f
 | _ => 1000
def mdZ (f : Nat) (o : Oper) : Md := match o.op with
 | .alloc _ => if f = 10 then .shf else .iso
 | .buildSlice .. => if f = 100 ∧ o.dst ≠ some 89 ∧ o.dst ≠ some 95 then .shr else .iso
 | _ => if (calleeZ o) ∈ [35, 38, 72, 129] then .shr else .iso
theorem zFirst_run (G : Glob) : (erun Tryz.prog mdZ G 200 20 9 [] []).map (·.1) = some (.bool true) := by kernel_rfl
theorem zFirst (G : Glob) : Vi.Fn Tryz.prog G 9 [] (.bool true) := by
 obtain ⟨⟨r, H⟩, h1, h2⟩ := Option.map_eq_some_iff.1 (zFirst_run G)
 simp only at h2
 subst h2
 refine XS.mono (erun_ok Tryz.prog mdZ G 200 20 9 [] [] _ H h1) ?_
 rintro r1 H1 ⟨rfl, rfl⟩
 rfl
end Go.Vi
namespace Go.Vi
open Go Go.Vi Go.Proofs
attribute [local irreducible] vops vopsD vc
namespace Lay
def StOkL (n : Int) (sh : List Sheet) : Prop := ∀ s ∈ sh, 0 ≤ s.2 ∧ s.2 ≤ n
theorem StOkL.upd {n m : Int} {sh : List Sheet} {i : Nat} {f : Sheet → Sheet} (h : StOkL n sh) (hn : n ≤ m) (hf : ∀ s, 0 ≤ (f s).2 ∧ (f s).2 ≤ m) : StOkL m (updS sh i f) := by
 unfold updS
 split
 · rename_i s hs
   intro s' hs'
   rcases List.mem_or_eq_of_mem_set hs' with h1 | rfl
   · have := h s' h1; omega
   · exact hf s
 · intro s hs; have := h s hs; omega
theorem fwd_stamps {l : List Rc} {sh : List Sheet} {a : Nat} (h : StOkL a sh) : ∀ {n : Nat}, StOkL ((a + n : Nat) : Int) (fwd l sh a n)
 | 0 => h
 | n + 1 => by
   have ih := fwd_stamps (l := l) h (n := n)
   rw [fwd_succ]
   unfold stepR
   split
   · unfold layR
     split
     · refine ih.upd (by omega) fun s => ?_
       show 0 ≤ ((a + n : Nat) : Int) + 1 ∧ ((a + n : Nat) : Int) + 1 ≤ _
       omega
     · intro s hs; have := ih s hs; omega
   · intro s hs; have := ih s hs; omega
theorem valid_res {last : Int} {sh : List Sheet} (h0 : 0 ≤ last) (h1 : last ≤ 1000000) (hn : sh.length = 120) (hs : ShOk sh) (ht : StOkL last sh) : validB last (shRows sh) = true := by
 simp only [validB, Bool.and_eq_true, decide_eq_true_eq, Bool.not_eq_true', List.any_eq_false]
 refine ⟨⟨⟨h0, h1⟩, by rw [shRows_len, hn]; rfl⟩, fun r hr => ?_⟩
 obtain ⟨s, hm, rfl⟩ := List.mem_map.1 hr
 have h128 := (hs s hm).1
 have h2 := ht s hm
 simp only [badS, Bool.not_eq_true, Bool.or_eq_false_iff, bne_eq_false_iff_eq, decide_eq_false_iff_not]
 refine ⟨⟨?_, by omega⟩, by omega⟩
 show ((s.1.length : Nat) : Int) = 128
 omega
theorem pageOk_rows {sh : List Sheet} (h : ShOk sh) : ∀ r ∈ shRows sh, PageOk r := by
 intro r hr
 obtain ⟨s, hs, rfl⟩ := List.mem_map.1 hr
 obtain ⟨h1, h2⟩ := h s hs
 exact ⟨_, _, rfl, .inr ⟨_, _, rfl⟩, by show s.1.length < _; omega, h2⟩
def ResOk (v : AV) : Prop := ∃ la pg e, v = .tup [.agg [.int .i64 la, pg], .int .i64 e] ∧ IsL pg ∧ pg.isVal = true ∧ (lrows pg).length < 9223372036854775808 ∧ (∀ r ∈ lrows pg, PageOk r) ∧ (e = 0 → validB la (lrows pg) = true)
theorem res_err (e : Int) (h : e ≠ 0) : ResOk (errR e) := ⟨0, .nils, e, rfl, .inl rfl, rfl, by simp [lrows], fun r hr => by simp [lrows] at hr, fun he => absurd he h⟩
theorem res_ok {last : Int} {sh : List Sheet} (h0 : 0 ≤ last) (h1 : last ≤ 1000000) (hn : sh.length = 120) (hs : ShOk sh) (ht : StOkL last sh) : ResOk (okR last sh) :=
 ⟨last, .list .loose (shRows sh), 0, rfl, .inr ⟨_, _, rfl⟩, rfl, by show (shRows sh).length < _; rw [shRows_len]; omega, pageOk_rows hs, fun _ => valid_res h0 h1 hn hs ht⟩
theorem zero_stamps : StOkL ((0 : Nat) : Int) zeroSh := fun s hs => by
 have := List.eq_of_mem_replicate hs
 subst this
 exact ⟨Int.le_refl _, Int.le_refl _⟩
theorem copyR_res {x : AV} {l : List Rc} (hx : Recs x l) (hl : l.length ≤ 1000000) : ResOk (copyR l) := by
 unfold copyR
 split
 · rename_i hs
   have hR := sound_in hx hs
   refine res_ok (by omega) (by omega) (by rw [fwd_length]; exact List.length_replicate ..) (fwd_ok hR zeroSh_ok) ?_
   have := fwd_stamps (l := l) zero_stamps (n := l.length)
   rwa [Nat.zero_add] at this
 · exact res_err 50 (by decide)
theorem recR_res {last0 : Int} {rows : List (List AV)} {x : AV} {l : List Rc} (hp : ∀ r ∈ rows, PageOk r) (hx : Recs x l) (hl : l.length ≤ 1000000) : ResOk (recR last0 rows l) := by
 unfold recR
 split
 · rename_i hv
   split
   · rename_i hs
     split
     · exact res_err 2 (by decide)
     · rename_i hle
       have hR := sound_in hx hs
       obtain ⟨h120, hne, hPI, hSh⟩ := valid_pages hv hp
       have h0 : 0 ≤ last0 := by simp only [validB, Bool.and_eq_true, decide_eq_true_eq] at hv; exact hv.1.1.1
       have hst : StOkL ((last0.toNat : Nat) : Int) (shOf rows) := by
        intro s hs
        obtain ⟨r, hr, rfl⟩ := List.mem_map.1 hs
        obtain ⟨b, st, rfl, _⟩ := hp r hr
        simp only [validB, Bool.and_eq_true, Bool.not_eq_true', List.any_eq_false] at hv
        have := hv.2 _ hr
        simp only [badS, Bool.not_eq_true, Bool.or_eq_false_iff, decide_eq_false_iff_not] at this
        show 0 ≤ st ∧ st ≤ _
        omega
       refine res_ok (by omega) (by omega) (by rw [fwd_length, shOf_len, h120]) (fwd_ok hR hSh) ?_
       have := fwd_stamps (l := l) hst (n := l.length - last0.toNat)
       rwa [show last0.toNat + (l.length - last0.toNat) = l.length by omega] at this
   · exact res_err 50 (by decide)
 · exact res_err 270 (by decide)
set_option maxHeartbeats 8000000 in
theorem lawCopies (G : Glob) (x : AV) (l : List Rc) (hx : Recs x l) (last0 : Int) (pages : AV) (hPL : IsL pages) (hv : pages.isVal = true) (hlen : (lrows pages).length < 9223372036854775808) (hp : ∀ r ∈ lrows pages, PageOk r) : Vi.Fn Tryz.prog G 5 [x, .agg [.int .i64 last0, pages]] (.bool true) := by
 have hL := hx.isL
 have hlx := hx.len
 refine fn_body (fun _ => .iso) Tryz.func5 rfl ?_
 refine vc_norm (env' := (_ :: _ :: _ :: _ :: _ :: _ :: _ :: _ :: _ :: _ :: _ :: _ :: _ :: _ :: _ :: _ :: _ :: _ :: _ :: _ :: _ :: _ :: _ :: _ :: _ :: _ :: _ :: _ :: _ :: _ :: _ :: _ :: _ :: _ :: _ :: _ :: _ :: _ :: _ :: _ :: _ :: _ :: _ :: _ :: _ :: _ :: _ :: _ :: _ :: _ :: _ :: _ :: [])) (H' := []) rfl rfl ?_
 refine vs (wr ?_)
 refine w_opH (v := .ptr 0 0 0) (env' := _) (H2 := [.arr 42 2 [[_, _]]]) rfl rfl rfl rfl (fun _ h => h) (v52 rfl ?_)
 refine wN rfl rfl rfl (v52 rfl ?_)
 refine we rfl (vs (vs (wr ?_)))
 refine wN rfl rfl rfl (v52 rfl ?_)
 refine w_callI (env' := _) rfl rfl rfl (by kernel_rfl) rfl (by repeat' first | exact IsL.lend ‹_› | exact IsL.lend0 ‹_› | refine mapL_cons ?_ ?_ | refine lend_agg ?_ | rfl) (sLarge G x l hx) rfl (v52 rfl ?_)
 refine wN rfl rfl rfl (v52 rfl ?_)
 refine w_split 11 rfl (fun hg11 => ?_) (fun hg11 => ?_)
 ·
  refine v52 rfl ?_
  iterate 2 refine wS (wanted_f 11 (by kernel_rfl) rfl) (v52 rfl ?_)
  refine wN rfl rfl rfl (v52 rfl ?_)
  refine we rfl ?_
  refine vc_true rfl ?_
  refine vs (wr ?_)
  refine w_callI (env' := _) rfl rfl rfl (by kernel_rfl) rfl (by repeat' first | exact IsL.lend ‹_› | exact IsL.lend0 ‹_› | refine mapL_cons ?_ ?_ | refine lend_agg ?_ | rfl) (zFirst G) rfl (v52 rfl ?_)
  refine wN rfl rfl rfl (v52 rfl ?_)
  refine we rfl (vc_ret (r_then (r_fn rfl ?_)))
  rfl
 ·
  refine v52 rfl ?_
  refine wN (v := .agg [_, _]) (wanted_t 11 (by kernel_rfl) rfl) rfl rfl (v52 rfl ?_)
  refine w_callI (env' := _) (wanted_t 11 (by kernel_rfl) rfl) rfl rfl (by kernel_rfl) rfl (by repeat' first | exact IsL.lend ‹_› | exact IsL.lend0 ‹_› | refine mapL_cons ?_ ?_ | refine lend_agg ?_ | rfl) (t5 G last0 pages hPL hlen hp) rfl (v52 rfl ?_)
  refine wN rfl rfl rfl (v52 rfl ?_)
  refine we rfl ?_
  refine vc_cond rfl (fun hc14 => ?_) (fun hc14 => ?_)
  ·
   refine vs (wr ?_)
   refine w_callI (env' := _) rfl rfl rfl (by kernel_rfl) rfl (by repeat' first | exact IsL.lend ‹_› | exact IsL.lend0 ‹_› | refine mapL_cons ?_ ?_ | refine lend_agg ?_ | rfl) (zFirst G) rfl (v52 rfl ?_)
   refine wN rfl rfl rfl (v52 rfl ?_)
   refine we rfl (vc_ret (r_then (r_fn rfl ?_)))
   rfl
  ·
   refine vc_skip (n_then (vs ?_))
   have h40 : l.length ≤ 1000000 := by
    have := (Bool.or_eq_false_iff.1 (show ((List.range l.length).any (largeAt l) || decide ((l.length : Int) > 40)) = false from hg11)).2
    have := of_decide_eq_false this
    omega
   obtain ⟨la, pg, e, hr, q1, q2, q3, q4, q5⟩ := copyR_res hx h40
   have hc1 := bCopy G x l hx h40
   have hc2 := bCopyR G x l hx h40
   rw [hr] at hc1 hc2
   refine wr ?_
   refine wN rfl rfl rfl (v52 rfl ?_)
   refine w_callI (env' := _) rfl rfl rfl (by kernel_rfl) rfl (by repeat' first | exact IsL.lend ‹_› | exact IsL.lend0 ‹_› | refine mapL_cons ?_ ?_ | refine lend_agg ?_ | rfl) (hc1) rfl (v52 rfl ?_)
   iterate 3 refine wN rfl rfl rfl (v52 rfl ?_)
   refine w_opH (v := .ptr 1 0 0) (env' := _) (H2 := [.arr 42 2 [[_, _]], .arr 42 2 [[_, _]]]) rfl rfl rfl rfl (fun _ h => h) (v52 rfl ?_)
   refine w_op0N (H2 := [.arr 42 2 [[_, _]], .arr 42 2 [[_, _]]]) rfl rfl rfl (fun _ h => h) ?_
   refine wN rfl rfl rfl (v52 rfl ?_)
   refine we rfl (vs (wr ?_))
   refine wN rfl rfl rfl (v52 rfl ?_)
   refine w_callI (env' := _) rfl rfl rfl (by kernel_rfl) rfl (by repeat' first | exact IsL.lend ‹_› | exact IsL.lend0 ‹_› | refine mapL_cons ?_ ?_ | refine lend_agg ?_ | rfl) (hc2) rfl (v52 rfl ?_)
   iterate 3 refine wN rfl rfl rfl (v52 rfl ?_)
   refine w_opH (v := .ptr 2 0 0) (env' := _) (H2 := [.arr 42 2 [[_, _]], .arr 42 2 [[_, _]], .arr 42 2 [[_, _]]]) rfl rfl rfl rfl (fun _ h => h) (v52 rfl ?_)
   refine w_op0N (H2 := [.arr 42 2 [[_, _]], .arr 42 2 [[_, _]], .arr 42 2 [[_, _]]]) rfl rfl rfl (fun _ h => h) ?_
   refine wN rfl rfl rfl (v52 rfl ?_)
   refine we rfl (vs (w_regionD (by kernel_rfl) ?_))
   iterate 2 refine dN (v := .agg [_, _]) rfl rfl rfl (d52 rfl ?_)
   refine d_callI (env' := _) rfl rfl rfl (by kernel_rfl) rfl (by repeat' first | exact IsL.lend ‹_› | exact IsL.lend0 ‹_› | refine mapL_cons ?_ ?_ | refine lend_agg ?_ | rfl) (t8 G la pg q1 q3 q4) rfl (d52 rfl ?_)
   refine dN rfl rfl rfl (d52 rfl ?_)
   refine d_split 29 rfl (fun hg29 => ?_) (fun hg29 => ?_)
   ·
    refine d52 rfl ?_
    iterate 3 refine dN (wanted_t 29 (by kernel_rfl) rfl) rfl rfl (d52 rfl ?_)
    iterate 2 refine dN rfl rfl rfl (d52 rfl ?_)
    refine d_split 34 rfl (fun hg34 => ?_) (fun hg34 => ?_)
    ·
     refine d52 rfl ?_
     refine dN (v := .agg [_, _]) (wanted_t 34 (by kernel_rfl) rfl) rfl rfl (d52 rfl ?_)
     refine d_callI (env' := _) (wanted_t 34 (by kernel_rfl) rfl) rfl rfl (by kernel_rfl) rfl (by repeat' first | exact IsL.lend ‹_› | exact IsL.lend0 ‹_› | refine mapL_cons ?_ ?_ | refine lend_agg ?_ | rfl) (t11 G last0 pages hPL hv hlen (fun r hr => by obtain ⟨b, s, rfl, hb⟩ := hp r hr; exact ⟨b, s, rfl, hb.1⟩)) rfl (d52 rfl ?_)
     refine dN (v := .agg [_, _]) (wanted_t 34 (by kernel_rfl) rfl) rfl rfl (d52 rfl ?_)
     refine d_callI (env' := _) (wanted_t 34 (by kernel_rfl) rfl) rfl rfl (by kernel_rfl) rfl (by repeat' first | exact IsL.lend ‹_› | exact IsL.lend0 ‹_› | refine mapL_cons ?_ ?_ | refine lend_agg ?_ | rfl) (t16 G last0 pages hPL hlen hp) rfl (d52 rfl ?_)
     refine dN (wanted_t 34 (by kernel_rfl) rfl) rfl rfl (d52 rfl ?_)
     iterate 2 refine dN rfl rfl rfl (d52 rfl ?_)
     refine d_split 41 rfl (fun hg41 => ?_) (fun hg41 => ?_)
     ·
      refine d52 rfl ?_
      iterate 3 refine dN (wanted_t 41 (by kernel_rfl) rfl) rfl rfl (d52 rfl ?_)
      refine d_split 44 rfl (fun hg44 => ?_) (fun hg44 => ?_)
      ·
       refine d52 rfl ?_
       iterate 2 refine dS (wanted_f 44 (by kernel_rfl) rfl) (d52 rfl ?_)
       refine dN (wanted_t 41 (by kernel_rfl) rfl) rfl rfl (d52 rfl ?_)
       iterate 2 refine dN rfl rfl rfl (d52 rfl ?_)
       refine d_callI (env' := _) (wanted_t 49 (by kernel_rfl) rfl) rfl rfl (by kernel_rfl) rfl (by repeat' first | exact IsL.lend ‹_› | exact IsL.lend0 ‹_› | refine mapL_cons ?_ ?_ | refine lend_agg ?_ | rfl) (zFirst G) rfl (d52 rfl ?_)
       iterate 2 refine dN rfl rfl rfl (d52 rfl ?_)
       refine d_end rfl (vc_ret (r_fn rfl ?_))
       rfl
      ·
       refine d52 rfl ?_
       refine dN (v := .agg [_, _]) (wanted_t 44 (by kernel_rfl) rfl) rfl rfl (d52 rfl ?_)
       refine d_callI (env' := _) (wanted_t 44 (by kernel_rfl) rfl) rfl rfl (by kernel_rfl) rfl (by repeat' first | exact IsL.lend ‹_› | exact IsL.lend0 ‹_› | refine mapL_cons ?_ ?_ | refine lend_agg ?_ | rfl) (t11 G la pg q1 q2 q3 (fun r hr => by obtain ⟨b, s, rfl, hb⟩ := q4 r hr; exact ⟨b, s, rfl, hb.1⟩)) rfl (d52 rfl ?_)
       refine dN (wanted_t 41 (by kernel_rfl) rfl) rfl rfl (d52 rfl ?_)
       iterate 2 refine dN rfl rfl rfl (d52 rfl ?_)
       refine d_split 49 rfl (fun hg49 => ?_) (fun hg49 => ?_)
       ·
        refine d52 rfl ?_
        refine d_callI (env' := _) (wanted_t 49 (by kernel_rfl) rfl) rfl rfl (by kernel_rfl) rfl (by repeat' first | exact IsL.lend ‹_› | exact IsL.lend0 ‹_› | refine mapL_cons ?_ ?_ | refine lend_agg ?_ | rfl) (zFirst G) rfl (d52 rfl ?_)
        iterate 2 refine dN rfl rfl rfl (d52 rfl ?_)
        refine d_end rfl (vc_ret (r_fn rfl ?_))
        rfl
       ·
        have he : e = 0 := by simpa using hg44
        rw [q5 he] at hg49
        cases hg49
     ·
      simp at hg41
    ·
     simp at hg34
   ·
    cases hg29
set_option maxHeartbeats 8000000 in
theorem lawRecovers (G : Glob) (last0 : Int) (pages : AV) (hPL : IsL pages) (hv : pages.isVal = true) (hlen : (lrows pages).length < 9223372036854775808) (hp : ∀ r ∈ lrows pages, PageOk r) (x : AV) (l : List Rc) (hx : Recs x l) : Vi.Fn Tryz.prog G 4 [.agg [.int .i64 last0, pages], x] (.bool true) := by
 have hL := hx.isL
 have hlx := hx.len
 refine fn_body (fun _ => .iso) Tryz.func4 rfl ?_
 refine vc_norm (env' := (_ :: _ :: _ :: _ :: _ :: _ :: _ :: _ :: _ :: _ :: _ :: _ :: _ :: _ :: _ :: _ :: _ :: _ :: _ :: _ :: _ :: _ :: _ :: _ :: _ :: _ :: _ :: _ :: _ :: _ :: _ :: _ :: _ :: _ :: _ :: _ :: _ :: _ :: _ :: [])) (H' := []) rfl rfl ?_
 refine vs (wr ?_)
 refine w_opH (v := .ptr 0 0 0) (env' := _) (H2 := [.arr 42 2 [[_, _]]]) rfl rfl rfl rfl (fun _ h => h) (v39 rfl ?_)
 refine wN rfl rfl rfl (v39 rfl ?_)
 refine we rfl (vs (vs (wr ?_)))
 refine wN rfl rfl rfl (v39 rfl ?_)
 refine w_callI (env' := _) rfl rfl rfl (by kernel_rfl) rfl (by repeat' first | exact IsL.lend ‹_› | exact IsL.lend0 ‹_› | refine mapL_cons ?_ ?_ | refine lend_agg ?_ | rfl) (sLarge G x l hx) rfl (v39 rfl ?_)
 refine wN rfl rfl rfl (v39 rfl ?_)
 refine w_split 11 rfl (fun hg11 => ?_) (fun hg11 => ?_)
 ·
  refine v39 rfl ?_
  iterate 2 refine wS (wanted_f 11 (by kernel_rfl) rfl) (v39 rfl ?_)
  refine wN rfl rfl rfl (v39 rfl ?_)
  refine we rfl ?_
  refine vc_true rfl ?_
  refine vs (wr ?_)
  refine w_callI (env' := _) rfl rfl rfl (by kernel_rfl) rfl (by repeat' first | exact IsL.lend ‹_› | exact IsL.lend0 ‹_› | refine mapL_cons ?_ ?_ | refine lend_agg ?_ | rfl) (zFirst G) rfl (v39 rfl ?_)
  refine wN rfl rfl rfl (v39 rfl ?_)
  refine we rfl (vc_ret (r_then (r_fn rfl ?_)))
  rfl
 ·
  refine v39 rfl ?_
  refine wN (v := .agg [_, _]) (wanted_t 11 (by kernel_rfl) rfl) rfl rfl (v39 rfl ?_)
  refine w_callI (env' := _) (wanted_t 11 (by kernel_rfl) rfl) rfl rfl (by kernel_rfl) rfl (by repeat' first | exact IsL.lend ‹_› | exact IsL.lend0 ‹_› | refine mapL_cons ?_ ?_ | refine lend_agg ?_ | rfl) (t5 G last0 pages hPL hlen hp) rfl (v39 rfl ?_)
  refine wN rfl rfl rfl (v39 rfl ?_)
  refine we rfl ?_
  refine vc_cond rfl (fun hc14 => ?_) (fun hc14 => ?_)
  ·
   refine vs (wr ?_)
   refine w_callI (env' := _) rfl rfl rfl (by kernel_rfl) rfl (by repeat' first | exact IsL.lend ‹_› | exact IsL.lend0 ‹_› | refine mapL_cons ?_ ?_ | refine lend_agg ?_ | rfl) (zFirst G) rfl (v39 rfl ?_)
   refine wN rfl rfl rfl (v39 rfl ?_)
   refine we rfl (vc_ret (r_then (r_fn rfl ?_)))
   rfl
  ·
   refine vc_skip (n_then (vs ?_))
   have h40 : l.length ≤ 1000000 := by
    have := (Bool.or_eq_false_iff.1 (show ((List.range l.length).any (largeAt l) || decide ((l.length : Int) > 40)) = false from hg11)).2
    have := of_decide_eq_false this
    omega
   obtain ⟨la, pg, e, hr, q1, q2, q3, q4, q5⟩ := recR_res (last0 := last0) hp hx h40
   have hc1 := bRecover G last0 pages hPL hv hlen hp x l hx h40
   have hc2 := bRecoverR G last0 pages hPL hlen hp x l hx h40
   rw [hr] at hc1 hc2
   refine wr ?_
   refine wN (v := .agg [_, _]) rfl rfl rfl (v39 rfl ?_)
   refine wN rfl rfl rfl (v39 rfl ?_)
   refine w_callI (env' := _) rfl rfl rfl (by kernel_rfl) rfl (by repeat' first | exact IsL.lend ‹_› | exact IsL.lend0 ‹_› | refine mapL_cons ?_ ?_ | refine lend_agg ?_ | rfl) (hc1) rfl (v39 rfl ?_)
   iterate 3 refine wN rfl rfl rfl (v39 rfl ?_)
   refine w_opH (v := .ptr 1 0 0) (env' := _) (H2 := [.arr 42 2 [[_, _]], .arr 42 2 [[_, _]]]) rfl rfl rfl rfl (fun _ h => h) (v39 rfl ?_)
   refine w_op0N (H2 := [.arr 42 2 [[_, _]], .arr 42 2 [[_, _]]]) rfl rfl rfl (fun _ h => h) ?_
   refine wN rfl rfl rfl (v39 rfl ?_)
   refine we rfl (vs (wr ?_))
   refine wN (v := .agg [_, _]) rfl rfl rfl (v39 rfl ?_)
   refine wN rfl rfl rfl (v39 rfl ?_)
   refine w_callI (env' := _) rfl rfl rfl (by kernel_rfl) rfl (by repeat' first | exact IsL.lend ‹_› | exact IsL.lend0 ‹_› | refine mapL_cons ?_ ?_ | refine lend_agg ?_ | rfl) (hc2) rfl (v39 rfl ?_)
   iterate 3 refine wN rfl rfl rfl (v39 rfl ?_)
   refine w_opH (v := .ptr 2 0 0) (env' := _) (H2 := [.arr 42 2 [[_, _]], .arr 42 2 [[_, _]], .arr 42 2 [[_, _]]]) rfl rfl rfl rfl (fun _ h => h) (v39 rfl ?_)
   refine w_op0N (H2 := [.arr 42 2 [[_, _]], .arr 42 2 [[_, _]], .arr 42 2 [[_, _]]]) rfl rfl rfl (fun _ h => h) ?_
   refine wN rfl rfl rfl (v39 rfl ?_)
   refine we rfl (vs (wr ?_))
   iterate 2 refine wN (v := .agg [_, _]) rfl rfl rfl (v39 rfl ?_)
   refine w_callI (env' := _) rfl rfl rfl (by kernel_rfl) rfl (by repeat' first | exact IsL.lend ‹_› | exact IsL.lend0 ‹_› | refine mapL_cons ?_ ?_ | refine lend_agg ?_ | rfl) (t8 G la pg q1 q3 q4) rfl (v39 rfl ?_)
   refine wN rfl rfl rfl (v39 rfl ?_)
   refine w_split 31 rfl (fun hg31 => ?_) (fun hg31 => ?_)
   ·
    refine v39 rfl ?_
    iterate 3 refine wN (wanted_t 31 (by kernel_rfl) rfl) rfl rfl (v39 rfl ?_)
    iterate 2 refine wN rfl rfl rfl (v39 rfl ?_)
    refine w_split 36 rfl (fun hg36 => ?_) (fun hg36 => ?_)
    ·
     refine v39 rfl ?_
     refine w_callI (env' := _) (wanted_t 36 (by kernel_rfl) rfl) rfl rfl (by kernel_rfl) rfl (by repeat' first | exact IsL.lend ‹_› | exact IsL.lend0 ‹_› | refine mapL_cons ?_ ?_ | refine lend_agg ?_ | rfl) (zFirst G) rfl (v39 rfl ?_)
     iterate 2 refine wN rfl rfl rfl (v39 rfl ?_)
     refine we rfl (vc_ret (r_fn rfl ?_))
     rfl
    ·
     simp at hg36
   ·
    cases hg31
end Lay
end Go.Vi
namespace Go.Vi
open Go Go.Vi Go.Proofs
namespace Lay
section
variable {P : Program} {f : Nat} {t : TypeId} {xs : List AV}
theorem shp_int {k : IntKind} (hu : P.underlying t = some (.int k)) (h : Shp P f t xs) : ∃ n, xs = [.int k n] := by
 cases f with
 | zero => exact h.elim
 | succ f =>
   unfold Shp at h
   rw [hu] at h
   obtain ⟨n, h1, _⟩ := h
   exact ⟨n, h1⟩
theorem shp_str (hu : P.underlying t = some .string) (h : Shp P f t xs) : ∃ s : ByteArray, xs = [.str s] ∧ s.size < 9223372036854775808 := by
 cases f with
 | zero => exact h.elim
 | succ f =>
   unfold Shp at h
   rw [hu] at h
   obtain ⟨s, h1, h2⟩ := h
   exact ⟨s, h1, by simp only [maxLen] at h2; omega⟩
theorem shp_slice {e : TypeId} (hu : P.underlying t = some (.slice e)) (h : Shp P (f + 1) t xs) : ∃ x, xs = [x] ∧ IsL x ∧ x.isVal = true ∧ (lrows x).length < 9223372036854775808 ∧ ∀ r ∈ lrows x, Shp P f e r := by
 unfold Shp at h
 rw [hu] at h
 rcases h with rfl | ⟨rows, rfl, h1, h2⟩
 · exact ⟨_, rfl, .inl rfl, rfl, by simp [lrows], fun r hr => by simp [lrows] at hr⟩
 · refine ⟨_, rfl, .inr ⟨_, _, rfl⟩, rfl, ?_, fun r hr => (h2 r hr).2⟩
   show rows.length < _
   simp only [maxLen] at h1
   omega
theorem shp_struct {fs : Array Field} (hu : P.underlying t = some (.struct fs)) (h : Shp P (f + 1) t xs) : fieldsS P (Shp P f) fs.toList xs := by
 unfold Shp at h
 rw [hu] at h
 exact h
end
theorem fs_cons {P : Program} {R : TypeId → List AV → Prop} {x : Field} {r : List Field} {xs : List AV} (h : fieldsS P R (x :: r) xs) : ∃ p q, xs = p ++ q ∧ R x.type p ∧ fieldsS P R r q := by
 obtain ⟨p, q, h1, _, h2, h3⟩ := h
 exact ⟨p, q, h1, h2, h3⟩
theorem fs_nil {P : Program} {R : TypeId → List AV → Prop} {xs : List AV} (h : fieldsS P R [] xs) : xs = [] := h
theorem rows_of {α : Type} {enc : α → List AV} {good : α → Prop} : ∀ {rows : List (List AV)}, (∀ r ∈ rows, ∃ a, r = enc a ∧ good a) → ∃ l : List α, rows = l.map enc ∧ ∀ a ∈ l, good a
 | [], _ => ⟨[], rfl, fun a h => by cases h⟩
 | r :: rest, h => by
   obtain ⟨a, rfl, ha⟩ := h r (by simp)
   obtain ⟨l, rfl, hl⟩ := rows_of (rows := rest) (fun r hr => h r (by simp [hr]))
   refine ⟨a :: l, rfl, fun x hx => ?_⟩
   rcases List.mem_cons.1 hx with rfl | hx
   · exact ha
   · exact hl x hx
theorem byt_of {f : Nat} {xs : List AV} (h : Shp Tryz.prog (f + 1) 68 xs) : ∃ b, xs = [b] ∧ Byt b ∧ b.isVal = true := by
 obtain ⟨x, h1, h2, h3, h4, h5⟩ := shp_slice Tryz.underlying68 h
 exact ⟨x, h1, ⟨h2, h4, fun q hq => shp_int Tryz.underlying5 (h5 q hq)⟩, h3⟩
theorem page_of {f : Nat} {xs : List AV} (h : Shp Tryz.prog (f + 2) 95 xs) : PageOk xs := by
 obtain ⟨p1, q1, rfl, h1, h⟩ := fs_cons (shp_struct Tryz.underlying95 h)
 obtain ⟨p2, q2, rfl, h2, h⟩ := fs_cons h
 obtain rfl := fs_nil h
 obtain ⟨b, rfl, hb, _⟩ := byt_of h1
 obtain ⟨n, rfl⟩ := shp_int Tryz.underlying3 h2
 exact ⟨b, n, rfl, hb⟩
theorem image_of {a : AV} (h : ArgIs Tryz.prog 8 42 a) : ∃ last pages, a = .agg [.int .i64 last, pages] ∧ IsL pages ∧ pages.isVal = true ∧ (lrows pages).length < 9223372036854775808 ∧ ∀ r ∈ lrows pages, PageOk r := by
 obtain ⟨f, xs, hf, h1, h2, h3⟩ := h
 obtain ⟨f, rfl⟩ : ∃ g, f = g + 6 := ⟨f - 6, by omega⟩
 obtain ⟨p1, q1, rfl, s1, h⟩ := fs_cons (shp_struct (f := f + 5) Tryz.underlying42 h1)
 obtain ⟨p2, q2, rfl, s2, h⟩ := fs_cons h
 obtain rfl := fs_nil h
 obtain ⟨n, rfl⟩ := shp_int Tryz.underlying3 s1
 obtain ⟨x, rfl, c1, c2, c3, c4⟩ := shp_slice (f := f + 4) Tryz.underlying40 s2
 simp only [argOf, Tryz.underlying42] at h2
 cases h2
 exact ⟨n, x, rfl, c1, c2, c3, fun r hr => page_of (f := f + 2) (c4 r hr)⟩
theorem open_of {f : Nat} {xs : List AV} (h : Shp Tryz.prog (f + 1) 140 xs) : ∃ u : Ro, xs = u.row ∧ u.ready.size < 9223372036854775808 := by
 obtain ⟨p1, q1, rfl, h1, h⟩ := fs_cons (shp_struct Tryz.underlying140 h)
 obtain ⟨p2, q2, rfl, h2, h⟩ := fs_cons h
 obtain ⟨p3, q3, rfl, h3, h⟩ := fs_cons h
 obtain rfl := fs_nil h
 obtain ⟨a, rfl⟩ := shp_int Tryz.underlying3 h1
 obtain ⟨b, rfl⟩ := shp_int Tryz.underlying3 h2
 obtain ⟨c, rfl, hc⟩ := shp_str Tryz.underlying9 h3
 exact ⟨⟨a, b, c⟩, rfl, hc⟩
theorem rec_of {f : Nat} {xs : List AV} (h : Shp Tryz.prog (f + 3) 93 xs) : ∃ r : Rc, xs = r.row ∧ r.Ok := by
 obtain ⟨p1, q1, rfl, h1, h⟩ := fs_cons (shp_struct Tryz.underlying93 h)
 obtain ⟨p2, q2, rfl, h2, h⟩ := fs_cons h
 obtain ⟨p3, q3, rfl, h3, h⟩ := fs_cons h
 obtain ⟨p4, q4, rfl, h4, h⟩ := fs_cons h
 obtain ⟨p5, q5, rfl, h5, h⟩ := fs_cons h
 obtain ⟨p6, q6, rfl, h6, h⟩ := fs_cons h
 obtain ⟨p7, q7, rfl, h7, h⟩ := fs_cons h
 obtain ⟨p8, q8, rfl, h8, h⟩ := fs_cons h
 obtain ⟨p9, q9, rfl, h9, h⟩ := fs_cons h
 obtain ⟨p10, q10, rfl, h10, h⟩ := fs_cons h
 obtain rfl := fs_nil h
 obtain ⟨a1, rfl⟩ := shp_int Tryz.underlying3 h1
 obtain ⟨a2, rfl⟩ := shp_int Tryz.underlying3 h2
 obtain ⟨a3, rfl⟩ := shp_int Tryz.underlying3 h3
 obtain ⟨a4, rfl⟩ := shp_int Tryz.underlying3 h4
 obtain ⟨b5, rfl, c5, d5⟩ := byt_of h5
 obtain ⟨b6, rfl, c6, d6⟩ := byt_of h6
 obtain ⟨a7, rfl⟩ := shp_int Tryz.underlying3 h7
 obtain ⟨a8, rfl⟩ := shp_int Tryz.underlying3 h8
 obtain ⟨a9, rfl, e9⟩ := shp_str Tryz.underlying9 h9
 obtain ⟨x, rfl, k1, k2, k3, k4⟩ := shp_slice (f := f + 1) Tryz.underlying91 h10
 obtain ⟨l, e1, g1⟩ := rows_of (enc := Ro.row) (good := fun u => u.ready.size < 9223372036854775808) (fun r hr => open_of (k4 r hr))
 exact ⟨⟨a1, a2, a3, a4, b5, b6, a7, a8, a9, x, l⟩, rfl, ⟨c5, c6, k1, e1, d5, d6, k2, by rw [e1] at k3; simpa using k3, e9, g1⟩⟩
theorem recs_of {a : AV} (h : ArgIs Tryz.prog 8 43 a) : ∃ l, Recs a l := by
 obtain ⟨f, xs, hf, h1, h2, h3⟩ := h
 obtain ⟨f, rfl⟩ : ∃ g, f = g + 6 := ⟨f - 6, by omega⟩
 obtain ⟨x, rfl, c1, c2, c3, c4⟩ := shp_slice (f := f + 5) Tryz.underlying43 h1
 obtain ⟨l, e1, g1⟩ := rows_of (enc := Rc.row) (good := Rc.Ok) (fun r hr => rec_of (f := f + 2) (c4 r hr))
 simp only [argOf, Tryz.underlying43] at h2
 cases h2
 exact ⟨l, c1, c2, e1, g1, by rw [e1] at c3; simpa using c3⟩
end Lay
end Go.Vi
