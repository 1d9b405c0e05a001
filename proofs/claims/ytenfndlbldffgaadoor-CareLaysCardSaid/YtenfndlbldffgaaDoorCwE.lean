/- The reference copy with memory of its own: a walk. -/
import Derived.Test.YtenfndlbldffgaaDoorCwD
set_option autoImplicit false
set_option linter.unusedVariables false
set_option linter.unusedSimpArgs false
set_option maxRecDepth 100000
namespace Go.Vi
open Go Go.Vi Go.Proofs
attribute [local irreducible] vops vopsD vc

def cv : List Nat → List (List AV) → List (List AV)
  | l :: ls, r :: rs => (match r with | [b, s] => [.row false l 0 (lrows b).length, s] | r => r) :: cv ls rs
  | _, _ => []
theorem cv_length : ∀ (ls : List Nat) (rs : List (List AV)), ls.length ≤ rs.length → (cv ls rs).length = ls.length
  | [], rs, h => by cases rs <;> rfl
  | l :: ls, [], h => by simp at h
  | l :: ls, r :: rs, h => by simp [cv, cv_length ls rs (by simpa using h)]
theorem cv_snoc : ∀ (ls : List Nat) (rs : List (List AV)) (l : Nat) (b s : AV), rs[ls.length]? = some [b, s] → cv (ls ++ [l]) rs = cv ls rs ++ [[.row false l 0 (lrows b).length, s]]
  | [], [], l, b, s, h => by cases h
  | [], r :: rs, l, b, s, h => by simp at h; subst h; cases rs <;> rfl
  | a :: ls, [], l, b, s, h => by cases h
  | a :: ls, r :: rs, l, b, s, h => by
    have := cv_snoc ls rs l b s (by simpa using h)
    simp [cv, this]
theorem cv_done : ∀ (ls : List Nat) (rs : List (List AV)) (i l : Nat) (r : List AV), ls[i]? = some l → rs[i]? = some r → PageIs r → (cv ls rs)[i]? = some [.row false l 0 (shOf1 r).1.length, .int .i64 (shOf1 r).2]
  | [], rs, i, l, r, h, _, _ => by cases h
  | a :: ls, [], i, l, r, _, h, _ => by cases h
  | a :: ls, r0 :: rs, 0, l, r, h1, h2, hp => by
    simp at h1 h2
    subst h1
    subst h2
    obtain ⟨t, bs, st, rfl, _⟩ := hp
    rfl
  | a :: ls, r0 :: rs, i + 1, l, r, h1, h2, hp => by
    simpa [cv] using cv_done ls rs i l r (by simpa using h1) (by simpa using h2) hp
structure OInv (H : Hp) (n0 : Nat) (last : Int) (tg : Tg) (rows : List (List AV)) (i : Nat) (Hx : Hp) (L : Nat) (locs : List Nat) : Prop where
  len : locs.length = i
  le : i ≤ rows.length
  c : Hx[n0]? = some (.arr 24 2 [[.int .i64 last, .list tg rows]])
  r : Hx[n0 + 1]? = some (.arr 24 2 [[.int .i64 0, .nils]])
  o : Hx[n0 + 2]? = some (.arr 24 2 [[.int .i64 last, pval L (cv locs rows)]])
  pgs : (cv locs rows = [] ∧ Hx.length + 2 ≤ L) ∨ (cv locs rows ≠ [] ∧ Hx[L]? = some (.arr 50 2 (cv locs rows)))
  byt : ∀ (j l : Nat) (r : List AV), locs[j]? = some l → rows[j]? = some r → Hx[l]? = some (.arr 5 1 (shOf1 r).1)
  nd : locs.Nodup
  gt : ∀ l ∈ locs, n0 + 2 < l ∧ l < Hx.length ∧ l ≠ L
  gL : n0 + 2 < L
  pre : ∀ (l : Nat) (o : VO), H[l]? = some o → Hx[l]? = some o
def oHeap (Hx : Hp) (n0 L : Nat) (last : Int) (bs : List (List AV)) (st : Int) (locs : List Nat) (rows : List (List AV)) : Hp :=
  ((Hx ++ [VO.arr 5 1 bs] ++ [VO.arr 50 2 [[.row false Hx.length 0 bs.length, .int .i64 st]]]).set L .dead ++ [VO.arr 50 2 (cv locs rows ++ [[.row false Hx.length 0 bs.length, .int .i64 st]])]).set (n0 + 2) (VO.arr 24 2 [[.int .i64 last, .row false (Hx.length + 2) 0 ((cv locs rows).length + 1)]])
theorem OInv.next {H : Hp} {n0 L : Nat} {last : Int} {tg : Tg} {rows : List (List AV)} {i : Nat} {Hx : Hp} {locs : List Nat} {t : Tg} {bs : List (List AV)} {st : Int} (h : OInv H n0 last tg rows i Hx L locs) (hn : H.length = n0) (hr : rows[i]? = some [.list t bs, .int .i64 st]) :
    OInv H n0 last tg rows (i + 1) (oHeap Hx n0 L last bs st locs rows) (Hx.length + 2) (locs ++ [Hx.length]) := by
  have hlt := (List.getElem?_eq_some_iff.1 hr).1
  have hcv := cv_snoc locs rows Hx.length _ _ (by rw [h.len]; exact hr)
  have ho := (List.getElem?_eq_some_iff.1 h.o).1
  have hgL := h.gL
  have old : ∀ (l : Nat) (o : VO), Hx[l]? = some o → l ≠ n0 + 2 → l ≠ L → (oHeap Hx n0 L last bs st locs rows)[l]? = some o := fun l o hl h1 h2 =>
    get_set (get_app (get_set (get_app (get_app hl)) (by omega))) (by omega)
  have hlen : (oHeap Hx n0 L last bs st locs rows).length = Hx.length + 3 := by simp [oHeap]
  refine ⟨by simp [h.len], hlt, old _ _ h.c (by omega) (by omega), old _ _ h.r (by omega) (by omega), ?_, .inr ⟨by rw [hcv]; simp, ?_⟩, ?_, ?_, ?_, by omega, ?_⟩
  · rw [hcv]
    have e : pval (Hx.length + 2) (cv locs rows ++ [[.row false Hx.length 0 (lrows (AV.list t bs)).length, .int .i64 st]]) = .row false (Hx.length + 2) 0 ((cv locs rows).length + 1) := by
      simp [pval]
    rw [e]
    exact get_self (get_app (get_set (get_app (get_app h.o)) (by omega)))
  · rw [hcv]
    refine get_set ?_ (by omega)
    rw [List.getElem?_append_right (by simp)]
    simp [lrows]
  · intro j l r hl hrj
    by_cases hj : j < i
    · rw [List.getElem?_append_left (by rw [h.len]; exact hj)] at hl
      have := h.gt l (List.mem_of_getElem? hl)
      exact old _ _ (h.byt j l r hl hrj) (by omega) (by omega)
    · have hji : j = i := by
        have := (List.getElem?_eq_some_iff.1 hl).1
        simp [h.len] at this
        omega
      subst hji
      rw [List.getElem?_append_right (by rw [h.len]; omega)] at hl
      simp [h.len] at hl
      subst hl
      rw [hr] at hrj
      cases hrj
      have hne : L ≠ Hx.length := by
        rcases h.pgs with ⟨_, h2⟩ | ⟨_, h2⟩
        · omega
        · have := (List.getElem?_eq_some_iff.1 h2).1; omega
      refine get_set (get_app (get_set (get_app ?_) hne)) (by omega)
      simp [shOf1, lrows]
  · rw [List.nodup_append]
    refine ⟨h.nd, by simp, ?_⟩
    intro a ha b hb e
    simp at hb
    have := (h.gt a ha).2
    omega
  · intro l hl
    rw [hlen]
    rcases List.mem_append.1 hl with hl | hl
    · have := h.gt l hl
      omega
    · simp at hl
      subst hl
      omega
  · intro l o' ho'
    have hl := (List.getElem?_eq_some_iff.1 ho').1
    exact old _ _ (h.pre l o' ho') (by omega) (by omega)
theorem OInv.img {H : Hp} {n0 L : Nat} {last : Int} {tg : Tg} {rows : List (List AV)} {i : Nat} {Hx : Hp} {locs : List Nat} {o : VO} (h : OInv H n0 last tg rows i Hx L locs) (hi : rows.length ≤ i) (hne : rows ≠ []) (hp : ∀ r ∈ rows, PageIs r) : Img (Hx.set (n0 + 1) o) L locs (shOf rows) := by
  have hle := h.le
  have hgL := h.gL
  have hii : i = rows.length := by omega
  have hset : ∀ l o', Hx[l]? = some o' → l ≠ n0 + 1 → (Hx.set (n0 + 1) o)[l]? = some o' := fun l o' ho hne => get_set ho (by omega)
  have hcl := cv_length locs rows (by rw [h.len]; omega)
  have hcn : cv locs rows ≠ [] := by
    intro e
    rw [e, h.len, hii] at hcl
    simp at hcl
    exact hne (List.length_eq_zero_iff.1 hcl.symm)
  have hLL := hset L _ ((h.pgs.resolve_left (fun e => hcn e.1)).2) (by omega)
  have hsh : ∀ j s, (shOf rows)[j]? = some s → ∃ r, rows[j]? = some r ∧ shOf1 r = s := fun j s hs => by
    unfold shOf at hs
    rw [List.getElem?_map] at hs
    exact Option.map_eq_some_iff.1 hs
  have hlen2 : (cv locs rows).length = (shOf rows).length := by rw [hcl, h.len, hii]; simp [shOf]
  refine ⟨by simp [shOf, h.len, hii], fun r hr => ?_, ⟨_, hLL, hlen2, fun j l s hl hs => ?_⟩, fun j l s hl hs => ?_, h.nd, fun l hl => by have := (h.gt l hl).2.2; omega⟩
  · rw [hLL] at hr; cases hr; exact hlen2
  · obtain ⟨r, hr, rfl⟩ := hsh j s hs
    exact cv_done locs rows j l r hl hr (hp r (List.mem_of_getElem? hr))
  · obtain ⟨r, hr, rfl⟩ := hsh j s hs
    have := (h.gt l (List.mem_of_getElem? hl)).1
    exact hset l _ (h.byt j l r hl hr) (by omega)

theorem nv_t17 {P : Program} {G : Glob} {md : Oper → Md} {ops : Array Oper} {r : List Oper} {env : List AV} {x0 x1 x2 x3 x4 x5 x6 x7 x8 x9 x10 x11 x12 x13 x14 x15 x16 x17 x18 x19 x20 x21 x22 x23 x24 x25 x26 x27 x28 x29 x30 x31 x32 x33 x34 x35 : AV} {H : Hp} {K : List AV → Hp → Prop} (he : env = (x0 :: x1 :: x2 :: x3 :: x4 :: x5 :: x6 :: x7 :: x8 :: x9 :: x10 :: x11 :: x12 :: x13 :: x14 :: x15 :: x16 :: x17 :: x18 :: x19 :: x20 :: x21 :: x22 :: x23 :: x24 :: x25 :: x26 :: x27 :: x28 :: x29 :: x30 :: x31 :: x32 :: x33 :: x34 :: x35 :: [])) (h : vops P G md ops r (x0 :: x1 :: x2 :: x3 :: x4 :: x5 :: x6 :: x7 :: x8 :: x9 :: x10 :: x11 :: x12 :: x13 :: x14 :: x15 :: x16 :: x17 :: x18 :: x19 :: x20 :: x21 :: x22 :: x23 :: x24 :: x25 :: x26 :: x27 :: x28 :: x29 :: x30 :: x31 :: x32 :: x33 :: x34 :: x35 :: []) H K) : vops P G md ops r env H K := by rw [he]; exact h
theorem nd_t17 {P : Program} {G : Glob} {md : Oper → Md} {ops : Array Oper} {r : List Oper} {env : List AV} {x0 x1 x2 x3 x4 x5 x6 x7 x8 x9 x10 x11 x12 x13 x14 x15 x16 x17 x18 x19 x20 x21 x22 x23 x24 x25 x26 x27 x28 x29 x30 x31 x32 x33 x34 x35 : AV} {H : Hp} {K : List AV → Hp → Prop} (he : env = (x0 :: x1 :: x2 :: x3 :: x4 :: x5 :: x6 :: x7 :: x8 :: x9 :: x10 :: x11 :: x12 :: x13 :: x14 :: x15 :: x16 :: x17 :: x18 :: x19 :: x20 :: x21 :: x22 :: x23 :: x24 :: x25 :: x26 :: x27 :: x28 :: x29 :: x30 :: x31 :: x32 :: x33 :: x34 :: x35 :: [])) (h : vopsD P G md ops r (x0 :: x1 :: x2 :: x3 :: x4 :: x5 :: x6 :: x7 :: x8 :: x9 :: x10 :: x11 :: x12 :: x13 :: x14 :: x15 :: x16 :: x17 :: x18 :: x19 :: x20 :: x21 :: x22 :: x23 :: x24 :: x25 :: x26 :: x27 :: x28 :: x29 :: x30 :: x31 :: x32 :: x33 :: x34 :: x35 :: []) H K) : vopsD P G md ops r env H K := by rw [he]; exact h
theorem nw_t17 {P : Program} {G : Glob} {md : Oper → Md} {ops : Array Oper} {r : List Oper} {env : List AV} {x0 x1 x2 x3 x4 x5 x6 x7 x8 x9 x10 x11 x12 x13 x14 x15 x16 x17 x18 x19 x20 x21 x22 x23 x24 x25 x26 x27 x28 x29 x30 x31 x32 x33 x34 x35 : AV} {wn : Nat → Nat × Nat} {hh : Nat → Hp} {i k : Nat} {K : List AV → Nat → Prop} (he : env = (x0 :: x1 :: x2 :: x3 :: x4 :: x5 :: x6 :: x7 :: x8 :: x9 :: x10 :: x11 :: x12 :: x13 :: x14 :: x15 :: x16 :: x17 :: x18 :: x19 :: x20 :: x21 :: x22 :: x23 :: x24 :: x25 :: x26 :: x27 :: x28 :: x29 :: x30 :: x31 :: x32 :: x33 :: x34 :: x35 :: [])) (h : vopsW P G md ops wn hh i r (x0 :: x1 :: x2 :: x3 :: x4 :: x5 :: x6 :: x7 :: x8 :: x9 :: x10 :: x11 :: x12 :: x13 :: x14 :: x15 :: x16 :: x17 :: x18 :: x19 :: x20 :: x21 :: x22 :: x23 :: x24 :: x25 :: x26 :: x27 :: x28 :: x29 :: x30 :: x31 :: x32 :: x33 :: x34 :: x35 :: []) k K) : vopsW P G md ops wn hh i r env k K := by rw [he]; exact h
theorem t17 (G : Glob) (H : Hp) (last : Int) (tg : Tg) (rows : List (List AV)) (hne : rows ≠ []) (hlen : rows.length ≤ 1000) (hp : ∀ r ∈ rows, PageIs r) : XS Tryd.prog G 17 [.agg [.int .i64 last, .list tg rows]] H (fun r H' => ∃ L locs, r = .agg [.int .i64 last, .row false L 0 rows.length] ∧ Img H' L locs (shOf rows) ∧ H.length ≤ L ∧ (∀ l ∈ locs, H.length ≤ l) ∧ ∀ (l : Nat) (o : VO), H[l]? = some o → H'[l]? = some o) := by
  refine xs_body (fun o => match o.dst with | some 32 => .shr | some 33 => .shr | _ => .iso) Tryd.func17 rfl ?_
  refine vc_norm (env' := (_ :: _ :: _ :: _ :: _ :: _ :: _ :: _ :: _ :: _ :: _ :: _ :: _ :: _ :: _ :: _ :: _ :: _ :: _ :: _ :: _ :: _ :: _ :: _ :: _ :: _ :: _ :: _ :: _ :: _ :: _ :: _ :: _ :: _ :: _ :: _ :: [])) (H' := _) rfl rfl ?_
  refine vc_seq ?_
  refine w_region ?_
  refine w_opH (v := .ptr H.length 0 0) (env' := _) (H2 := H ++ [VO.arr 24 2 [[.int .i64 last, .list tg rows]]]) rfl (rfl) rfl (rfl) (fun _ h => h) (nv_t17 rfl ?_)
  refine w_opH (v := .ptr (H.length + 1) 0 0) (env' := _) (H2 := H ++ [VO.arr 24 2 [[.int .i64 last, .list tg rows]]] ++ [VO.arr 24 2 [[.int .i64 0, .nils]]]) rfl (g_alloc z24 rfl (by simp)) rfl (rfl) (fun _ h => h) (nv_t17 rfl ?_)
  refine w_end rfl ?_
  refine vc_seq ?_
  refine w_region ?_
  refine w_opN (v := .ptr H.length 0 0) (env' := _) rfl rfl rfl (fun _ h => h) (nv_t17 rfl ?_)
  refine w_opH (v := .int .i64 last) (env' := _) (H2 := _) rfl (g_load (rows := [[.int .i64 last, .list tg rows]]) (get_app get_last) rfl rfl) rfl (rfl) (fun _ h => h) (nv_t17 rfl ?_)
  refine w_opN (v := .agg [_, _]) (env' := _) rfl rfl rfl (fun _ h => h) (nv_t17 rfl ?_)
  refine w_opH (v := .ptr (H.length + 2) 0 0) (env' := _) (H2 := H ++ [VO.arr 24 2 [[.int .i64 last, .list tg rows]]] ++ [VO.arr 24 2 [[.int .i64 0, .nils]]] ++ [VO.arr 24 2 [[.int .i64 0, .nils]]]) rfl (g_alloc z24 rfl (by simp)) rfl (rfl) (fun _ h => h) (nv_t17 rfl ?_)
  refine w_op0N (H2 := (H ++ [VO.arr 24 2 [[.int .i64 last, .list tg rows]]] ++ [VO.arr 24 2 [[.int .i64 0, .nils]]] ++ [VO.arr 24 2 [[.int .i64 last, .nils]]])) rfl (g_store (show (H ++ [VO.arr 24 2 [[.int .i64 last, .list tg rows]]] ++ [VO.arr 24 2 [[.int .i64 0, .nils]]] ++ [VO.arr 24 2 [[.int .i64 0, .nils]]])[H.length + 2]? = some (VO.arr 24 2 [[.int .i64 0, .nils]]) by simp) rfl rfl sz24 ⟨rfl, by simp, by decide⟩) ((by simp [setC])) (fun _ h => h) ?_
  refine w_end rfl ?_
  refine vc_seq ?_
  refine vc_seq ?_
  refine w_region ?_
  have hI0 : OInv H H.length last tg rows 0 (H ++ [VO.arr 24 2 [[.int .i64 last, .list tg rows]]] ++ [VO.arr 24 2 [[.int .i64 0, .nils]]] ++ [VO.arr 24 2 [[.int .i64 last, .nils]]]) (H.length + 5) [] := ⟨rfl, by omega, get_app (get_app get_last), get_app (by simp), by simp [pval, cv], .inl ⟨by simp [cv], by simp⟩, fun j l r h => by simp at h, List.nodup_nil, fun l h => by simp at h, by omega, fun l o h => get_app (get_app (get_app h))⟩
  generalize (H ++ [VO.arr 24 2 [[.int .i64 last, .list tg rows]]] ++ [VO.arr 24 2 [[.int .i64 0, .nils]]] ++ [VO.arr 24 2 [[.int .i64 last, .nils]]]) = H3 at hI0 ⊢
  refine w_opN (env' := _) rfl rfl rfl (fun _ h => h) (nv_t17 rfl ?_)
  refine w_end rfl ?_
  refine vc_block ?_
  refine vc_loopX (α := { a : Nat × Hp × Nat × List Nat // OInv H H.length last tg rows a.1 a.2.1 a.2.2.1 a.2.2.2 }) (fun a => (none :: none :: none :: none :: (some (.int .i64 (a.1.1 : Nat))) :: none :: none :: none :: (some .undef) :: (some .undef) :: (some .undef) :: (some .undef) :: (some .undef) :: (some .undef) :: (some .undef) :: (some .undef) :: (some .undef) :: (some .undef) :: (some .undef) :: (some .undef) :: (some .undef) :: (some .undef) :: (some .undef) :: (some .undef) :: (some .undef) :: (some .undef) :: (some .undef) :: (some .undef) :: (some .undef) :: (some .undef) :: (some .undef) :: (some .undef) :: (some .undef) :: (some .undef) :: (some .undef) :: none :: [])) (fun a => a.1.2.1) (fun a => rows.length - a.1.1) ⟨(0, H3, _, []), hI0⟩ ⟨.inl rfl, .inl rfl, .inl rfl, .inl rfl, .inl rfl, .inl rfl, .inl rfl, .inl rfl, .inr rfl, .inr rfl, .inr rfl, .inr rfl, .inr rfl, .inr rfl, .inr rfl, .inr rfl, .inr rfl, .inr rfl, .inr rfl, .inr rfl, .inr rfl, .inr rfl, .inr rfl, .inr rfl, .inr rfl, .inr rfl, .inr rfl, .inr rfl, .inr rfl, .inr rfl, .inr rfl, .inr rfl, .inr rfl, .inr rfl, .inr rfl, .inl rfl, trivial⟩ rfl ?_
  rintro ⟨⟨i, Hx, L, locs⟩, hI⟩ Y0 hY0
  refine vc_norm (env' := (_ :: _ :: _ :: _ :: (.int .i64 (i : Int)) :: _ :: _ :: _ :: _ :: _ :: _ :: _ :: _ :: _ :: _ :: _ :: _ :: _ :: _ :: _ :: _ :: _ :: _ :: _ :: _ :: _ :: _ :: _ :: _ :: _ :: _ :: _ :: _ :: _ :: _ :: _ :: [])) (H' := Hx) rfl rfl ?_
  replace hI : OInv H H.length last tg rows i Hx L locs := hI
  refine vc_seq ?_
  refine vc_seq ?_
  refine w_region ?_
  refine w_opN (env' := _) rfl rfl rfl (fun _ h => h) (nv_t17 rfl ?_)
  refine w_opN (v := .ptr H.length 0 1) (env' := _) rfl rfl rfl (fun _ h => h) (nv_t17 rfl ?_)
  refine w_opH (v := .list tg rows) (env' := _) (H2 := _) rfl (g_load hI.c rfl rfl) rfl (rfl) (fun _ h => h) (nv_t17 rfl ?_)
  first | refine w_opN (env' := _) rfl rfl rfl (fun _ h => h) (nv_t17 rfl ?_) | refine x_len (env' := _) rfl rfl (by assumption) Tryd.underlying22 rfl (nv_t17 rfl ?_)
  refine w_opN (env' := _) rfl rfl rfl (fun _ h => h) (nv_t17 rfl ?_)
  refine w_end rfl ?_
  refine vc_cond rfl (fun hc12 => ?_) (fun hc12 => ?_)
  · skip
    have hlt : i < rows.length := by simpa using hc12
    have hri : rows[i]? = some rows[i] := List.getElem?_eq_getElem hlt
    obtain ⟨tb, bs, st, hx, hbs, hbl, hbb⟩ := hp _ (List.getElem_mem hlt)
    rw [hx] at hri
    refine vc_skip ?_
    refine n_then ?_
    refine vc_seq ?_
    refine vc_block ?_
    refine w_regionW [(Hx ++ [VO.arr 5 1 bs]), (Hx ++ [VO.arr 5 1 bs] ++ [VO.arr 50 2 [[AV.row false Hx.length 0 bs.length, AV.int .i64 st]]]), ((Hx ++ [VO.arr 5 1 bs] ++ [VO.arr 50 2 [[AV.row false Hx.length 0 bs.length, AV.int .i64 st]]]).set L .dead ++ [VO.arr 50 2 (cv locs rows ++ [[AV.row false Hx.length 0 bs.length, AV.int .i64 st]])]), (oHeap Hx H.length L last bs st locs rows)] (by kernel_rfl) ?_
    have hcl := cv_length locs rows (by rw [hI.len]; exact hI.le)
    rw [hI.len] at hcl
    have hLne : L ≠ H.length + 2 := by have := hI.gL; omega
    have hsrc : srcRows (Hx ++ [VO.arr 5 1 bs] ++ [VO.arr 50 2 [[AV.row false Hx.length 0 bs.length, AV.int .i64 st]]]) (.row true (Hx.length + 1) 0 1) = some [[AV.row false Hx.length 0 bs.length, AV.int .i64 st]] := by simp [srcRows, rowsOf]
    have hacc : (cv locs rows = [] ∧ (Hx ++ [VO.arr 5 1 bs] ++ [VO.arr 50 2 [[AV.row false Hx.length 0 bs.length, AV.int .i64 st]]]).length ≤ L) ∨ (cv locs rows ≠ [] ∧ (Hx ++ [VO.arr 5 1 bs] ++ [VO.arr 50 2 [[AV.row false Hx.length 0 bs.length, AV.int .i64 st]]])[L]? = some (.arr 50 2 (cv locs rows))) := hI.pgs.imp (fun h => ⟨h.1, by simp; exact h.2⟩) (fun h => ⟨h.1, get_app (get_app h.2)⟩)
    refine e_op (v := .ptr (H.length + 2) 0 1) (env' := _) rfl (by decide) (show _ = (0, 2) by kernel_rfl) (by decide) (fun _ _ h => h) (fun q h1 h2 => rfl) rfl (nw_t17 rfl ?_)
    refine e_op (v := pval L (cv locs rows)) (env' := _) rfl (by decide) (show _ = (0, 2) by kernel_rfl) (by decide) (fun _ _ h => h) (fun q h1 h2 => (match q, h1, h2 with | 0, _, _ => g_load hI.o rfl rfl | 1, _, _ => g_load (get_app hI.o) rfl rfl | 2, _, _ => g_load (get_app (get_app hI.o)) rfl rfl | q + 3, _, h2 => absurd h2 (by omega))) rfl (nw_t17 rfl ?_)
    refine e_op (v := .list .tight []) (env' := _) rfl (by decide) (show _ = (0, 0) by kernel_rfl) (by decide) (fun _ _ h => h) (fun q h1 h2 => rfl) rfl (nw_t17 rfl ?_)
    refine e_op (v := .ptr H.length 0 1) (env' := _) rfl (by decide) (show _ = (0, 0) by kernel_rfl) (by decide) (fun _ _ h => h) (fun q h1 h2 => rfl) rfl (nw_t17 rfl ?_)
    refine e_op (v := .list tg rows) (env' := _) rfl (by decide) (show _ = (0, 0) by kernel_rfl) (by decide) (fun _ _ h => h) (fun q h1 h2 => (match q, h1, h2 with | 0, _, _ => g_load hI.c rfl rfl | q + 1, _, h2 => absurd h2 (by omega))) rfl (nw_t17 rfl ?_)
    refine e_op (env' := _) rfl (by decide) (show _ = (0, 0) by kernel_rfl) (by decide) (fun _ _ h => h) (fun q h1 h2 => rfl) rfl (nw_t17 rfl ?_)
    refine e_op (v := .iptr (tg == .bor) [.list tb bs, .int .i64 st]) (env' := _) rfl (by decide) (show _ = (0, 0) by kernel_rfl) (by decide) (fun _ _ h => h) (fun q h1 h2 => g_list el22 (by omega) hri rfl) rfl (nw_t17 rfl ?_)
    refine e_op (v := .iptr _ [_, _]) (env' := _) rfl (by decide) (show _ = (0, 0) by kernel_rfl) (by decide) (fun _ _ h => h) (fun q h1 h2 => rfl) rfl (nw_t17 rfl ?_)
    refine e_op (env' := _) rfl (by decide) (show _ = (0, 0) by kernel_rfl) (by decide) (fun _ _ h => h) (fun q h1 h2 => rfl) rfl (nw_t17 rfl ?_)
    refine e_eff (H0 := Hx) (H1 := (Hx ++ [VO.arr 5 1 bs])) (v := .row false Hx.length 0 bs.length) (env' := _) rfl rfl (show _ = (0, 1) by kernel_rfl) rfl rfl (fun _ _ h => h) (g_clone (H := Hx) (x := .list tb bs) (rows := bs) (e := 5) el29 Tryd.underlying29 rfl zc5 by5 rfl rfl (by decide) (by decide) (bytes_len hbb) rfl hbs (bytes_frz hbb) (by omega)) rfl (nw_t17 rfl ?_)
    refine e_op (v := .ptr H.length 0 1) (env' := _) rfl (by decide) (show _ = (0, 1) by kernel_rfl) (by decide) (fun _ _ h => h) (fun q h1 h2 => rfl) rfl (nw_t17 rfl ?_)
    refine e_op (v := .list tg rows) (env' := _) rfl (by decide) (show _ = (0, 1) by kernel_rfl) (by decide) (fun _ _ h => h) (fun q h1 h2 => (match q, h1, h2 with | 0, _, _ => g_load hI.c rfl rfl | 1, _, _ => g_load (get_app hI.c) rfl rfl | q + 2, _, h2 => absurd h2 (by omega))) rfl (nw_t17 rfl ?_)
    refine e_op (env' := _) rfl (by decide) (show _ = (0, 1) by kernel_rfl) (by decide) (fun _ _ h => h) (fun q h1 h2 => rfl) rfl (nw_t17 rfl ?_)
    refine e_op (v := .iptr (tg == .bor) [.list tb bs, .int .i64 st]) (env' := _) rfl (by decide) (show _ = (0, 1) by kernel_rfl) (by decide) (fun _ _ h => h) (fun q h1 h2 => g_list el22 (by omega) hri rfl) rfl (nw_t17 rfl ?_)
    refine e_op (v := .iptr _ [_]) (env' := _) rfl (by decide) (show _ = (0, 1) by kernel_rfl) (by decide) (fun _ _ h => h) (fun q h1 h2 => rfl) rfl (nw_t17 rfl ?_)
    refine e_op (env' := _) rfl (by decide) (show _ = (0, 1) by kernel_rfl) (by decide) (fun _ _ h => h) (fun q h1 h2 => rfl) rfl (nw_t17 rfl ?_)
    refine e_op (v := .agg [AV.row false Hx.length 0 bs.length, AV.int .i64 st]) (env' := _) rfl (by decide) (show _ = (1, 1) by kernel_rfl) (by decide) (fun _ _ h => h) (fun q h1 h2 => rfl) rfl (nw_t17 rfl ?_)
    refine e_eff (H0 := (Hx ++ [VO.arr 5 1 bs])) (H1 := (Hx ++ [VO.arr 5 1 bs] ++ [VO.arr 50 2 [[AV.row false Hx.length 0 bs.length, AV.int .i64 st]]])) (v := .row true (Hx.length + 1) 0 1) (env' := _) rfl rfl (show _ = (1, 2) by kernel_rfl) rfl rfl (fun _ _ h => h) (g_build1 (H := (Hx ++ [VO.arr 5 1 bs])) (x := .agg [AV.row false Hx.length 0 bs.length, AV.int .i64 st]) (cs := [AV.row false Hx.length 0 bs.length, AV.int .i64 st]) el22 zc50 (by decide) rfl rfl (by simp)) rfl (nw_t17 rfl ?_)
    refine e_eff (H0 := (Hx ++ [VO.arr 5 1 bs] ++ [VO.arr 50 2 [[AV.row false Hx.length 0 bs.length, AV.int .i64 st]]])) (H1 := ((Hx ++ [VO.arr 5 1 bs] ++ [VO.arr 50 2 [[AV.row false Hx.length 0 bs.length, AV.int .i64 st]]]).set L .dead ++ [VO.arr 50 2 (cv locs rows ++ [[AV.row false Hx.length 0 bs.length, AV.int .i64 st]])])) (v := .row false (Hx.length + 2) 0 ((cv locs rows).length + 1)) (env' := _) rfl rfl (show _ = (2, 3) by kernel_rfl) rfl rfl (fun _ _ h => h) (accR (n := Hx.length + 2) (H := (Hx ++ [VO.arr 5 1 bs] ++ [VO.arr 50 2 [[AV.row false Hx.length 0 bs.length, AV.int .i64 st]]])) (L := L) (pgs := cv locs rows) (news := [[AV.row false Hx.length 0 bs.length, AV.int .i64 st]]) (x := .row true (Hx.length + 1) 0 1) (e := 50) hacc (by simp) el22 Tryd.underlying22 rfl zc50 by50 hsrc rfl (by decide) (by decide) rfl rfl (by simp) (by have := hI.le; rw [hcl]; simp; omega)) rfl (nw_t17 rfl ?_)
    refine e_op (v := .ptr (H.length + 2) 0 1) (env' := _) rfl (by decide) (show _ = (3, 3) by kernel_rfl) (by decide) (fun _ _ h => h) (fun q h1 h2 => rfl) rfl (nw_t17 rfl ?_)
    refine e_eff0 (H0 := ((Hx ++ [VO.arr 5 1 bs] ++ [VO.arr 50 2 [[AV.row false Hx.length 0 bs.length, AV.int .i64 st]]]).set L .dead ++ [VO.arr 50 2 (cv locs rows ++ [[AV.row false Hx.length 0 bs.length, AV.int .i64 st]])])) (H1 := (oHeap Hx H.length L last bs st locs rows)) rfl rfl (show _ = (3, 4) by kernel_rfl) rfl rfl (fun _ _ h => h) (g_store (i := 0) (rows := [[.int .i64 last, pval L (cv locs rows)]]) (r := [.int .i64 last, pval L (cv locs rows)]) (k := 1) (x := .row false (Hx.length + 2) 0 ((cv locs rows).length + 1)) (cs := [.row false (Hx.length + 2) 0 ((cv locs rows).length + 1)]) (get_app (get_set (get_app (get_app hI.o)) hLne)) rfl rfl sz22 ⟨rfl, by simp, by decide⟩) ?_
    refine e_endB rfl ?_
    refine n_then ?_
    refine w_region ?_
    refine w_opN (env' := _) rfl rfl rfl (fun _ h => h) (nv_t17 rfl ?_)
    refine w_opN (env' := _) rfl rfl rfl (fun _ h => h) (nv_t17 rfl ?_)
    refine w_opN (env' := _) rfl rfl rfl (fun _ h => h) (nv_t17 rfl ?_)
    refine w_end rfl ?_
    refine hY0 ⟨(i + 1, _, _, _), hI.next rfl hri⟩ (by simp only; omega) _ _ ⟨.inl rfl, .inl rfl, .inl rfl, .inl rfl, .inl ?_, .inl rfl, .inl rfl, .inl rfl, .inr rfl, .inr rfl, .inr rfl, .inr rfl, .inr rfl, .inr rfl, .inr rfl, .inr rfl, .inr rfl, .inr rfl, .inr rfl, .inr rfl, .inr rfl, .inr rfl, .inr rfl, .inr rfl, .inr rfl, .inr rfl, .inr rfl, .inr rfl, .inr rfl, .inr rfl, .inr rfl, .inr rfl, .inr rfl, .inr rfl, .inr rfl, .inl rfl, trivial⟩ rfl
    exact (int_succ (by omega)).symm
  · skip
    have hge : ¬ i < rows.length := by simpa using hc12
    have hcl := cv_length locs rows (by rw [hI.len]; exact hI.le)
    have hlen2 : (cv locs rows).length = rows.length := by rw [hcl, hI.len]; have := hI.le; omega
    have hpv : pval L (cv locs rows) = .row false L 0 rows.length := by
      have : cv locs rows ≠ [] := fun e => hne (List.length_eq_zero_iff.1 (by rw [← hlen2, e]; rfl))
      simp only [pval, if_neg this, hlen2]
    refine vc_exit ?_
    refine x_then ?_
    refine x_then ?_
    refine x_same ?_
    refine n_then ?_
    refine vc_seq ?_
    refine w_region ?_
    refine w_opH (v := .agg [.int .i64 last, pval L (cv locs rows)]) (env' := _) (H2 := _) rfl (g_load hI.o rfl rfl) rfl (rfl) (fun _ h => h) (nv_t17 rfl ?_)
    refine w_op0N (H2 := _) rfl (g_store hI.r rfl rfl sz24 ⟨rfl, by simp, by decide⟩) (rfl) (fun _ h => h) ?_
    refine w_end rfl ?_
    refine vc_ret ?_
    refine r_fn (vres_cell rfl rfl (g_vload (get_self hI.r) rfl rfl)) ?_
    -- return 0
    refine ⟨L, locs, by rw [← hpv]; rfl, hI.img (by omega) hne hp, by have := hI.gL; omega, fun l hl => by have := (hI.gt l hl).1; omega, fun l o h => ?_⟩
    exact get_set (hI.pre l o h) (by have := (List.getElem?_eq_some_iff.1 h).1; omega)
end Go.Vi
