/- Copies with memory of their own: walks. -/
import Derived.Test.YtenfndlbldffgaaDoorCwC
import Derived.Test.YtenfndlbldffgaaDoorViZ
set_option autoImplicit false
set_option linter.unusedVariables false
set_option linter.unusedSimpArgs false
set_option maxRecDepth 100000
namespace Go.Vi
open Go Go.Vi Go.Proofs
attribute [local irreducible] vops vopsD vc

theorem zc5 : zcOf Tryd.prog 5 = some [.int .u8 0] := by kernel_rfl
theorem by5 : byOf Tryd.prog 5 = some 1 := by kernel_rfl
theorem zc50 : zcOf Tryd.prog 50 = some [.nils, .int .i64 0] := by kernel_rfl
theorem by50 : byOf Tryd.prog 50 = some 32 := by kernel_rfl
theorem z24 : zrOf Tryd.prog 24 = some (.agg [.int .i64 0, .nils]) := by kernel_rfl
theorem z50 : zrOf Tryd.prog 50 = some (.agg [.nils, .int .i64 0]) := by kernel_rfl
theorem sz22 : szOf Tryd.prog 22 = some 1 := by kernel_rfl
theorem sz29 : szOf Tryd.prog 29 = some 1 := by kernel_rfl
theorem sz50 : szOf Tryd.prog 50 = some 2 := by kernel_rfl
theorem sz24 : szOf Tryd.prog 24 = some 2 := by kernel_rfl
theorem sz3 : szOf Tryd.prog 3 = some 1 := by kernel_rfl
theorem sz5 : szOf Tryd.prog 5 = some 1 := by kernel_rfl
/-- A page whose bytes are there. -/
def PageIs (r : List AV) : Prop := ∃ t bs st, r = [.list t bs, .int .i64 st] ∧ bs ≠ [] ∧ bs.length ≤ 1000 ∧ ∀ q ∈ bs, ∃ v, q = [.int .u8 v]
def mix : List Nat → List (List AV) → List (List AV)
  | l :: ls, r :: rs => (match r with | [b, s] => [.row false l 0 (lrows b).length, s] | r => r) :: mix ls rs
  | [], rs => rs
  | _ :: _, [] => []
theorem mix_length : ∀ (ls : List Nat) (rs : List (List AV)), (mix ls rs).length = rs.length
  | [], rs => rfl
  | l :: ls, [] => rfl
  | l :: ls, r :: rs => by simp [mix, mix_length ls rs]
theorem mix_snoc : ∀ (ls : List Nat) (rs : List (List AV)) (l : Nat) (b s : AV), rs[ls.length]? = some [b, s] → mix (ls ++ [l]) rs = (mix ls rs).set ls.length [.row false l 0 (lrows b).length, s]
  | [], [], l, b, s, h => by cases h
  | [], r :: rs, l, b, s, h => by simp at h; subst h; simp [mix]
  | a :: ls, [], l, b, s, h => by cases h
  | a :: ls, r :: rs, l, b, s, h => by
    have := mix_snoc ls rs l b s (by simpa using h)
    simp [mix, this]
theorem mix_late : ∀ (ls : List Nat) (rs : List (List AV)) (i : Nat), ls.length ≤ i → (mix ls rs)[i]? = rs[i]?
  | [], rs, i, h => rfl
  | a :: ls, [], i, h => rfl
  | a :: ls, r :: rs, 0, h => by simp at h
  | a :: ls, r :: rs, i + 1, h => by simpa [mix] using mix_late ls rs i (by simpa using h)
theorem bytes_len {bs : List (List AV)} (h : ∀ q ∈ bs, ∃ v, q = [.int .u8 v]) : lenOk 1 bs = true :=
  List.all_eq_true.2 fun q hq => by obtain ⟨v, rfl⟩ := h q hq; rfl
theorem bytes_frz {H : Hp} {bs : List (List AV)} (h : ∀ q ∈ bs, ∃ v, q = [.int .u8 v]) : frzRows H bs = some (H, bs) :=
  frzRows_val fun r hr x hx => by obtain ⟨v, rfl⟩ := h r hr; simp at hx; subst hx; rfl
theorem bytes_val {bs : List (List AV)} (h : ∀ q ∈ bs, ∃ v, q = [.int .u8 v]) : allVal bs = true :=
  List.all_eq_true.2 fun q hq => by obtain ⟨v, rfl⟩ := h q hq; rfl
theorem pages_len {rows : List (List AV)} (h : ∀ r ∈ rows, PageIs r) : lenOk 2 rows = true :=
  List.all_eq_true.2 fun q hq => by obtain ⟨t, bs, st, rfl, _⟩ := h q hq; rfl
theorem pages_frz {H : Hp} {rows : List (List AV)} (h : ∀ r ∈ rows, PageIs r) : frzRows H rows = some (H, rows) :=
  frzRows_val fun r hr x hx => by
    obtain ⟨t, bs, st, rfl, _⟩ := h r hr
    simp at hx
    rcases hx with rfl | rfl <;> rfl
/-- An image in its own memory: pages at L, their bytes at locs. -/
structure Img (H : Hp) (L : Nat) (locs : List Nat) (sh : List (List (List AV) × Int)) : Prop where
  len : locs.length = sh.length
  pg : ∀ rows : List (List AV), H[L]? = some (.arr 50 2 rows) → rows.length = sh.length
  row : ∃ rows : List (List AV), H[L]? = some (.arr 50 2 rows) ∧ rows.length = sh.length ∧ ∀ (i l : Nat) (s : List (List AV) × Int), locs[i]? = some l → sh[i]? = some s → rows[i]? = some [.row false l 0 s.1.length, .int .i64 s.2]
  byt : ∀ (i l : Nat) (s : List (List AV) × Int), locs[i]? = some l → sh[i]? = some s → H[l]? = some (.arr 5 1 s.1)
  nd : locs.Nodup
  ne : ∀ l ∈ locs, l ≠ L
def shOf1 (r : List AV) : List (List AV) × Int := match r with
  | [b, .int _ s] => (lrows b, s)
  | _ => ([], 0)
def shOf (rows : List (List AV)) : List (List (List AV) × Int) := rows.map shOf1
structure CInv (H : Hp) (n0 L : Nat) (last : Int) (rows : List (List AV)) (i : Nat) (Hx : Hp) (locs : List Nat) : Prop where
  len : locs.length = i
  le : i ≤ rows.length
  c : Hx[n0]? = some (.arr 24 2 [[.int .i64 last, .row false L 0 rows.length]])
  r : Hx[n0 + 1]? = some (.arr 24 2 [[.int .i64 0, .nils]])
  pgs : Hx[L]? = some (.arr 50 2 (mix locs rows))
  byt : ∀ (j l : Nat) (r : List AV), locs[j]? = some l → rows[j]? = some r → Hx[l]? = some (.arr 5 1 (shOf1 r).1)
  nd : locs.Nodup
  gt : ∀ l ∈ locs, L < l ∧ l < Hx.length
  pre : ∀ (l : Nat) (o : VO), H[l]? = some o → Hx[l]? = some o
theorem CInv.next {H : Hp} {n0 L : Nat} {last : Int} {rows : List (List AV)} {i : Nat} {Hx : Hp} {locs : List Nat} {o : VO} {t : Tg} {bs : List (List AV)} {st : Int} (h : CInv H n0 L last rows i Hx locs) (hn : H.length = n0) (hL : n0 + 2 ≤ L) (hr : rows[i]? = some [.list t bs, .int .i64 st]) :
    CInv H n0 L last rows (i + 1) ((Hx ++ [o] ++ [VO.arr 5 1 bs]).set L (VO.arr 50 2 ((mix locs rows).set i [.row false (Hx.length + 1) 0 bs.length, .int .i64 st]))) (locs ++ [Hx.length + 1]) := by
  have hlt := (List.getElem?_eq_some_iff.1 hr).1
  have hLl := (List.getElem?_eq_some_iff.1 h.pgs).1
  have hmix := mix_snoc locs rows (Hx.length + 1) _ _ (by rw [h.len]; exact hr)
  rw [h.len] at hmix
  refine ⟨by simp [h.len], hlt, ?_, ?_, ?_, ?_, ?_, ?_, ?_⟩
  · exact get_set (get_app (get_app h.c)) (by omega)
  · exact get_set (get_app (get_app h.r)) (by omega)
  · rw [hmix]
    exact get_self (get_app (get_app h.pgs))
  · intro j l r hl hrj
    by_cases hj : j < i
    · rw [List.getElem?_append_left (by rw [h.len]; exact hj)] at hl
      have := h.gt l (List.mem_of_getElem? hl)
      exact get_set (get_app (get_app (h.byt j l r hl hrj))) (by omega)
    · have hji : j = i := by
        have := (List.getElem?_eq_some_iff.1 hl).1
        simp [h.len] at this
        omega
      subst hji
      rw [List.getElem?_append_right (by rw [h.len]; omega)] at hl
      simp [h.len] at hl
      subst hl
      rw [hr] at hrj
      cases hrj
      refine get_set ?_ (by omega)
      rw [List.getElem?_append_right (by simp)]
      simp [shOf1, lrows]
  · rw [List.nodup_append]
    refine ⟨h.nd, by simp, ?_⟩
    intro a ha b hb e
    simp at hb
    have := (h.gt a ha).2
    omega
  · intro l hl
    rcases List.mem_append.1 hl with hl | hl
    · have := h.gt l hl
      simp
      omega
    · simp at hl
      subst hl
      simp
      omega
  · intro l o' ho
    have hl := (List.getElem?_eq_some_iff.1 ho).1
    exact get_set (get_app (get_app (h.pre l o' ho))) (by omega)
theorem mix_done : ∀ (ls : List Nat) (rs : List (List AV)) (i l : Nat) (r : List AV), ls[i]? = some l → rs[i]? = some r → PageIs r → (mix ls rs)[i]? = some [.row false l 0 (shOf1 r).1.length, .int .i64 (shOf1 r).2]
  | [], rs, i, l, r, h, _, _ => by cases h
  | a :: ls, [], i, l, r, _, h, _ => by cases h
  | a :: ls, r0 :: rs, 0, l, r, h1, h2, hp => by
    simp at h1 h2
    subst h1
    subst h2
    obtain ⟨t, bs, st, rfl, _⟩ := hp
    rfl
  | a :: ls, r0 :: rs, i + 1, l, r, h1, h2, hp => by
    simpa [mix] using mix_done ls rs i l r (by simpa using h1) (by simpa using h2) hp
theorem CInv.img {H : Hp} {n0 L : Nat} {last : Int} {rows : List (List AV)} {i : Nat} {Hx : Hp} {locs : List Nat} {o : VO} (h : CInv H n0 L last rows i Hx locs) (hi : rows.length ≤ i) (hp : ∀ r ∈ rows, PageIs r) (hL : n0 + 2 ≤ L) : Img (Hx.set (n0 + 1) o) L locs (shOf rows) := by
  have hle := h.le
  have hii : i = rows.length := by omega
  have hset : ∀ l o', Hx[l]? = some o' → l ≠ n0 + 1 → (Hx.set (n0 + 1) o)[l]? = some o' := fun l o' ho hne => get_set ho (by omega)
  have hLL := hset L _ h.pgs (by omega)
  have hsh : ∀ j s, (shOf rows)[j]? = some s → ∃ r, rows[j]? = some r ∧ shOf1 r = s := fun j s hs => by
    unfold shOf at hs
    rw [List.getElem?_map] at hs
    exact Option.map_eq_some_iff.1 hs
  refine ⟨by simp [shOf, h.len, hii], fun r hr => ?_, ⟨_, hLL, by simp [mix_length, shOf], fun j l s hl hs => ?_⟩, fun j l s hl hs => ?_, h.nd, fun l hl => by have := (h.gt l hl).1; omega⟩
  · rw [hLL] at hr; cases hr; simp [mix_length, shOf]
  · obtain ⟨r, hr, rfl⟩ := hsh j s hs
    exact mix_done locs rows j l r hl hr (hp r (List.mem_of_getElem? hr))
  · obtain ⟨r, hr, rfl⟩ := hsh j s hs
    have := (h.gt l (List.mem_of_getElem? hl)).1
    exact hset l _ (h.byt j l r hl hr) (by omega)

theorem nv_t29 {P : Program} {G : Glob} {md : Oper → Md} {ops : Array Oper} {r : List Oper} {env : List AV} {x0 x1 x2 x3 x4 x5 x6 x7 : AV} {H : Hp} {K : List AV → Hp → Prop} (he : env = (x0 :: x1 :: x2 :: x3 :: x4 :: x5 :: x6 :: x7 :: [])) (h : vops P G md ops r (x0 :: x1 :: x2 :: x3 :: x4 :: x5 :: x6 :: x7 :: []) H K) : vops P G md ops r env H K := by rw [he]; exact h
theorem nd_t29 {P : Program} {G : Glob} {md : Oper → Md} {ops : Array Oper} {r : List Oper} {env : List AV} {x0 x1 x2 x3 x4 x5 x6 x7 : AV} {H : Hp} {K : List AV → Hp → Prop} (he : env = (x0 :: x1 :: x2 :: x3 :: x4 :: x5 :: x6 :: x7 :: [])) (h : vopsD P G md ops r (x0 :: x1 :: x2 :: x3 :: x4 :: x5 :: x6 :: x7 :: []) H K) : vopsD P G md ops r env H K := by rw [he]; exact h
theorem t29 (G : Glob) (H : Hp) (n : Nat) (hn : H.length = n) (t : Tg) (bs : List (List AV)) (hne : bs ≠ []) (hlen : bs.length ≤ 1000) (hb : ∀ q ∈ bs, ∃ v, q = [.int .u8 v]) : XS Tryd.prog G 29 [.list t bs] H (fun r H' => r = .row false n 0 bs.length ∧ H' = H ++ [VO.arr 5 1 bs]) := by
  refine xs_body (fun _ => .iso) Tryd.func29 rfl ?_
  refine vc_norm (env' := [_, _, _, _, _, _, _, _]) (H' := _) rfl rfl ?_
  refine vc_seq ?_
  refine w_region ?_
  refine w_opN (env' := _) rfl rfl rfl (fun _ h => h) (nv_t29 rfl ?_)
  refine w_end rfl ?_
  refine vc_seq ?_
  refine vc_seq ?_
  refine w_region ?_
  refine w_opN (env' := _) rfl rfl rfl (fun _ h => h) (nv_t29 rfl ?_)
  refine w_opN (env' := _) rfl rfl rfl (fun _ h => h) (nv_t29 rfl ?_)
  refine w_end rfl ?_
  refine vc_cond rfl (fun hc4 => ?_) (fun hc4 => ?_)
  · skip
    cases hc4
  · skip
    refine vc_skip ?_
    refine n_then ?_
    refine vc_seq ?_
    refine w_region ?_
    refine w_opN (env' := _) rfl rfl rfl (fun _ h => h) (nv_t29 rfl ?_)
    refine w_opN (env' := _) rfl rfl rfl (fun _ h => h) (nv_t29 rfl ?_)
    refine w_opH (v := .row false H.length 0 bs.length) (env' := _) (H2 := H ++ [VO.arr 5 1 bs]) rfl (g_clone (H := H) (x := .list t bs) (rows := bs) (e := 5) el29 Tryd.underlying29 rfl zc5 by5 rfl rfl (by decide) (by decide) (bytes_len hb) rfl hne (bytes_frz hb) (by omega)) rfl (rfl) (fun _ h => h) (nv_t29 rfl ?_)
    refine w_opN (env' := _) rfl rfl rfl (fun _ h => h) (nv_t29 rfl ?_)
    refine w_end rfl ?_
    refine vc_ret ?_
    refine r_fn rfl ?_
    -- return 0
    subst hn
    exact ⟨rfl, rfl⟩
theorem nv_t28 {P : Program} {G : Glob} {md : Oper → Md} {ops : Array Oper} {r : List Oper} {env : List AV} {x0 x1 x2 x3 x4 x5 x6 x7 : AV} {H : Hp} {K : List AV → Hp → Prop} (he : env = (x0 :: x1 :: x2 :: x3 :: x4 :: x5 :: x6 :: x7 :: [])) (h : vops P G md ops r (x0 :: x1 :: x2 :: x3 :: x4 :: x5 :: x6 :: x7 :: []) H K) : vops P G md ops r env H K := by rw [he]; exact h
theorem nd_t28 {P : Program} {G : Glob} {md : Oper → Md} {ops : Array Oper} {r : List Oper} {env : List AV} {x0 x1 x2 x3 x4 x5 x6 x7 : AV} {H : Hp} {K : List AV → Hp → Prop} (he : env = (x0 :: x1 :: x2 :: x3 :: x4 :: x5 :: x6 :: x7 :: [])) (h : vopsD P G md ops r (x0 :: x1 :: x2 :: x3 :: x4 :: x5 :: x6 :: x7 :: []) H K) : vopsD P G md ops r env H K := by rw [he]; exact h
theorem t28 (G : Glob) (H : Hp) (t : Tg) (rows : List (List AV)) (hne : rows ≠ []) (hlen : rows.length ≤ 1000) (hp : ∀ r ∈ rows, PageIs r) : XS Tryd.prog G 28 [.list t rows] H (fun r H' => r = .row false H.length 0 rows.length ∧ H' = H ++ [.arr 50 2 rows]) := by
  refine xs_body (fun _ => .iso) Tryd.func28 rfl ?_
  refine vc_norm (env' := [_, _, _, _, _, _, _, _]) (H' := _) rfl rfl ?_
  refine vc_seq ?_
  refine w_region ?_
  refine w_opN (env' := _) rfl rfl rfl (fun _ h => h) (nv_t28 rfl ?_)
  refine w_end rfl ?_
  refine vc_seq ?_
  refine vc_seq ?_
  refine w_region ?_
  refine w_opN (env' := _) rfl rfl rfl (fun _ h => h) (nv_t28 rfl ?_)
  refine w_opN (env' := _) rfl rfl rfl (fun _ h => h) (nv_t28 rfl ?_)
  refine w_end rfl ?_
  refine vc_cond rfl (fun hc4 => ?_) (fun hc4 => ?_)
  · skip
    cases hc4
  · skip
    refine vc_skip ?_
    refine n_then ?_
    refine vc_seq ?_
    refine w_region ?_
    refine w_opN (env' := _) rfl rfl rfl (fun _ h => h) (nv_t28 rfl ?_)
    refine w_opN (env' := _) rfl rfl rfl (fun _ h => h) (nv_t28 rfl ?_)
    refine w_opH (v := .row false H.length 0 rows.length) (env' := _) (H2 := H ++ [.arr 50 2 rows]) rfl (g_clone (H := H) (x := .list t rows) (rows := rows) (e := 50) el22 Tryd.underlying22 rfl zc50 by50 rfl rfl (by decide) (by decide) (pages_len hp) rfl hne (pages_frz hp) (by omega)) rfl (rfl) (fun _ h => h) (nv_t28 rfl ?_)
    refine w_opN (env' := _) rfl rfl rfl (fun _ h => h) (nv_t28 rfl ?_)
    refine w_end rfl ?_
    refine vc_ret ?_
    refine r_fn rfl ?_
    -- return 0
    exact ⟨rfl, rfl⟩
theorem nv_t15 {P : Program} {G : Glob} {md : Oper → Md} {ops : Array Oper} {r : List Oper} {env : List AV} {x0 x1 x2 x3 x4 x5 x6 x7 x8 x9 x10 x11 x12 x13 x14 x15 x16 x17 x18 x19 x20 x21 x22 x23 x24 x25 x26 : AV} {H : Hp} {K : List AV → Hp → Prop} (he : env = (x0 :: x1 :: x2 :: x3 :: x4 :: x5 :: x6 :: x7 :: x8 :: x9 :: x10 :: x11 :: x12 :: x13 :: x14 :: x15 :: x16 :: x17 :: x18 :: x19 :: x20 :: x21 :: x22 :: x23 :: x24 :: x25 :: x26 :: [])) (h : vops P G md ops r (x0 :: x1 :: x2 :: x3 :: x4 :: x5 :: x6 :: x7 :: x8 :: x9 :: x10 :: x11 :: x12 :: x13 :: x14 :: x15 :: x16 :: x17 :: x18 :: x19 :: x20 :: x21 :: x22 :: x23 :: x24 :: x25 :: x26 :: []) H K) : vops P G md ops r env H K := by rw [he]; exact h
theorem nd_t15 {P : Program} {G : Glob} {md : Oper → Md} {ops : Array Oper} {r : List Oper} {env : List AV} {x0 x1 x2 x3 x4 x5 x6 x7 x8 x9 x10 x11 x12 x13 x14 x15 x16 x17 x18 x19 x20 x21 x22 x23 x24 x25 x26 : AV} {H : Hp} {K : List AV → Hp → Prop} (he : env = (x0 :: x1 :: x2 :: x3 :: x4 :: x5 :: x6 :: x7 :: x8 :: x9 :: x10 :: x11 :: x12 :: x13 :: x14 :: x15 :: x16 :: x17 :: x18 :: x19 :: x20 :: x21 :: x22 :: x23 :: x24 :: x25 :: x26 :: [])) (h : vopsD P G md ops r (x0 :: x1 :: x2 :: x3 :: x4 :: x5 :: x6 :: x7 :: x8 :: x9 :: x10 :: x11 :: x12 :: x13 :: x14 :: x15 :: x16 :: x17 :: x18 :: x19 :: x20 :: x21 :: x22 :: x23 :: x24 :: x25 :: x26 :: []) H K) : vopsD P G md ops r env H K := by rw [he]; exact h
theorem nw_t15 {P : Program} {G : Glob} {md : Oper → Md} {ops : Array Oper} {r : List Oper} {env : List AV} {x0 x1 x2 x3 x4 x5 x6 x7 x8 x9 x10 x11 x12 x13 x14 x15 x16 x17 x18 x19 x20 x21 x22 x23 x24 x25 x26 : AV} {wn : Nat → Nat × Nat} {hh : Nat → Hp} {i k : Nat} {K : List AV → Nat → Prop} (he : env = (x0 :: x1 :: x2 :: x3 :: x4 :: x5 :: x6 :: x7 :: x8 :: x9 :: x10 :: x11 :: x12 :: x13 :: x14 :: x15 :: x16 :: x17 :: x18 :: x19 :: x20 :: x21 :: x22 :: x23 :: x24 :: x25 :: x26 :: [])) (h : vopsW P G md ops wn hh i r (x0 :: x1 :: x2 :: x3 :: x4 :: x5 :: x6 :: x7 :: x8 :: x9 :: x10 :: x11 :: x12 :: x13 :: x14 :: x15 :: x16 :: x17 :: x18 :: x19 :: x20 :: x21 :: x22 :: x23 :: x24 :: x25 :: x26 :: []) k K) : vopsW P G md ops wn hh i r env k K := by rw [he]; exact h
theorem t15 (G : Glob) (H : Hp) (last : Int) (tg : Tg) (rows : List (List AV)) (hne : rows ≠ []) (hlen : rows.length ≤ 1000) (hp : ∀ r ∈ rows, PageIs r) : XS Tryd.prog G 15 [.agg [.int .i64 last, .list tg rows]] H (fun r H' => ∃ L locs, r = .agg [.int .i64 last, .row false L 0 rows.length] ∧ Img H' L locs (shOf rows) ∧ H.length ≤ L ∧ (∀ l ∈ locs, H.length ≤ l) ∧ ∀ (l : Nat) (o : VO), H[l]? = some o → H'[l]? = some o) := by
  refine xs_body (fun o => match o.op with | .call ⟨.value _, _, _⟩ => .shr | _ => .iso) Tryd.func15 rfl ?_
  refine vc_norm (env' := (_ :: _ :: _ :: _ :: _ :: _ :: _ :: _ :: _ :: _ :: _ :: _ :: _ :: _ :: _ :: _ :: _ :: _ :: _ :: _ :: _ :: _ :: _ :: _ :: _ :: _ :: _ :: [])) (H' := _) rfl rfl ?_
  refine vc_seq ?_
  refine w_region ?_
  refine w_opH (v := .ptr H.length 0 0) (env' := _) (H2 := H ++ [VO.arr 24 2 [[.int .i64 last, .list tg rows]]]) rfl (rfl) rfl (rfl) (fun _ h => h) (nv_t15 rfl ?_)
  refine w_opH (v := .ptr (H.length + 1) 0 0) (env' := _) (H2 := H ++ [VO.arr 24 2 [[.int .i64 last, .list tg rows]]] ++ [VO.arr 24 2 [[.int .i64 0, .nils]]]) rfl (g_alloc z24 rfl (by simp)) rfl (rfl) (fun _ h => h) (nv_t15 rfl ?_)
  have hc1 : (H ++ [VO.arr 24 2 [[.int .i64 last, .list tg rows]]] ++ [VO.arr 24 2 [[.int .i64 0, .nils]]])[H.length]? = some (VO.arr 24 2 [[.int .i64 last, .list tg rows]]) := get_app get_last
  have hr1 : (H ++ [VO.arr 24 2 [[.int .i64 last, .list tg rows]]] ++ [VO.arr 24 2 [[.int .i64 0, .nils]]])[H.length + 1]? = some (VO.arr 24 2 [[.int .i64 0, .nils]]) := by simp
  have hp1 : ∀ (l : Nat) (o : VO), H[l]? = some o → (H ++ [VO.arr 24 2 [[.int .i64 last, .list tg rows]]] ++ [VO.arr 24 2 [[.int .i64 0, .nils]]])[l]? = some o := fun l o h => get_app (get_app h)
  have hl1 : (H ++ [VO.arr 24 2 [[.int .i64 last, .list tg rows]]] ++ [VO.arr 24 2 [[.int .i64 0, .nils]]]).length = H.length + 2 := by simp
  generalize (H ++ [VO.arr 24 2 [[.int .i64 last, .list tg rows]]] ++ [VO.arr 24 2 [[.int .i64 0, .nils]]]) = H1 at hc1 hr1 hp1 hl1 ⊢
  refine w_end rfl ?_
  refine vc_seq ?_
  refine w_region ?_
  refine w_opN (v := .ptr H.length 0 1) (env' := _) rfl rfl rfl (fun _ h => h) (nv_t15 rfl ?_)
  refine w_opH (v := .list tg rows) (env' := _) (H2 := _) rfl (g_load hc1 rfl rfl) rfl (rfl) (fun _ h => h) (nv_t15 rfl ?_)
  refine w_callS rfl rfl rfl (by kernel_rfl) rfl (t28 G _ tg rows hne hlen hp) ?_
  rintro _ _ ⟨rfl, rfl⟩
  refine w_norm (env' := (_ :: _ :: _ :: _ :: _ :: _ :: _ :: _ :: _ :: _ :: _ :: _ :: _ :: _ :: _ :: _ :: _ :: _ :: _ :: _ :: _ :: _ :: _ :: _ :: _ :: _ :: _ :: [])) (H' := _) rfl rfl ?_
  refine w_opN (v := .ptr H.length 0 1) (env' := _) rfl rfl rfl (fun _ h => h) (nv_t15 rfl ?_)
  refine w_op0N (H2 := ((H1 ++ [VO.arr 50 2 rows]).set H.length (VO.arr 24 2 [[.int .i64 last, .row false H1.length 0 rows.length]]))) rfl (g_store (get_app hc1) rfl rfl sz22 ⟨rfl, by simp, by decide⟩) (rfl) (fun _ h => h) ?_
  have hHl : H1.length = H.length + 2 := hl1
  have hc3 : ((H1 ++ [VO.arr 50 2 rows]).set H.length (VO.arr 24 2 [[.int .i64 last, .row false H1.length 0 rows.length]]))[H.length]? = some (.arr 24 2 [[.int .i64 last, .row false H1.length 0 rows.length]]) := get_self (get_app hc1)
  have hI0 : CInv H H.length H1.length last rows 0 ((H1 ++ [VO.arr 50 2 rows]).set H.length (VO.arr 24 2 [[.int .i64 last, .row false H1.length 0 rows.length]])) [] := ⟨rfl, by omega, hc3, get_set (get_app hr1) (by omega), get_set get_last (by omega), fun j l r h => by simp at h, List.nodup_nil, fun l h => by simp at h, fun l o h => get_set (get_app (hp1 l o h)) (by have := (List.getElem?_eq_some_iff.1 h).1; omega)⟩
  have hL3 : H.length + 2 ≤ H1.length := by omega
  generalize H1.length = L at *
  generalize hH3 : ((H1 ++ [VO.arr 50 2 rows]).set H.length (VO.arr 24 2 [[.int .i64 last, .row false L 0 rows.length]])) = H3 at *
  refine w_end rfl ?_
  refine vc_seq ?_
  refine vc_seq ?_
  refine w_region ?_
  refine w_opN (v := .ptr H.length 0 1) (env' := _) rfl rfl rfl (fun _ h => h) (nv_t15 rfl ?_)
  refine w_opH (v := .row false L 0 rows.length) (env' := _) (H2 := _) rfl (g_load hc3 rfl rfl) rfl (rfl) (fun _ h => h) (nv_t15 rfl ?_)
  first | refine w_opN (env' := _) rfl rfl rfl (fun _ h => h) (nv_t15 rfl ?_) | refine x_len (env' := _) rfl rfl (by assumption) Tryd.underlying22 rfl (nv_t15 rfl ?_)
  refine w_opN (env' := _) rfl rfl rfl (fun _ h => h) (nv_t15 rfl ?_)
  refine w_end rfl ?_
  refine vc_block ?_
  refine vc_loopX (α := { a : Nat × Hp × List Nat // CInv H H.length L last rows a.1 a.2.1 a.2.2 }) (fun a => (none :: none :: none :: (some .undef) :: (some .undef) :: none :: none :: none :: none :: none :: none :: none :: (some (.int .i64 (a.1.1 : Nat))) :: (some .undef) :: (some .undef) :: (some .undef) :: (some .undef) :: (some .undef) :: (some .undef) :: (some .undef) :: (some .undef) :: (some .undef) :: (some .undef) :: (some .undef) :: (some .undef) :: (some .undef) :: none :: [])) (fun a => a.1.2.1) (fun a => rows.length - a.1.1) ⟨(0, H3, []), hI0⟩ ⟨.inl rfl, .inl rfl, .inl rfl, .inr rfl, .inr rfl, .inl rfl, .inl rfl, .inl rfl, .inl rfl, .inl rfl, .inl rfl, .inl rfl, .inl rfl, .inr rfl, .inr rfl, .inr rfl, .inr rfl, .inr rfl, .inr rfl, .inr rfl, .inr rfl, .inr rfl, .inr rfl, .inr rfl, .inr rfl, .inr rfl, .inl rfl, trivial⟩ rfl ?_
  rintro ⟨⟨i, Hx, locs⟩, hI⟩ Y0 hY0
  refine vc_norm (env' := (_ :: _ :: _ :: _ :: _ :: _ :: _ :: _ :: _ :: _ :: _ :: _ :: (.int .i64 (i : Int)) :: _ :: _ :: _ :: _ :: _ :: _ :: _ :: _ :: _ :: _ :: _ :: _ :: _ :: _ :: [])) (H' := Hx) rfl rfl ?_
  replace hI : CInv H H.length L last rows i Hx locs := hI
  refine vc_seq ?_
  refine w_region ?_
  refine w_opN (env' := _) rfl rfl rfl (fun _ h => h) (nv_t15 rfl ?_)
  refine w_end rfl ?_
  refine vc_seq ?_
  refine vc_cond rfl (fun hc13 => ?_) (fun hc13 => ?_)
  · skip
    have hlt : i < rows.length := by simpa using hc13
    have hri : rows[i]? = some rows[i] := List.getElem?_eq_getElem hlt
    obtain ⟨tb, bs, st, hx, hbs, hbl, hbb⟩ := hp _ (List.getElem_mem hlt)
    rw [hx] at hri
    refine vc_skip ?_
    refine n_then ?_
    refine vc_seq ?_
    refine vc_block ?_
    refine vc_seq ?_
    refine w_region ?_
    refine w_opN (env' := _) rfl rfl rfl (fun _ h => h) (nv_t15 rfl ?_)
    refine w_opH (v := .ptr L i 0) (env' := _) (H2 := _) rfl (g_index0 el22 hI.pgs (by omega) (by omega)) rfl (rfl) (fun _ h => h) (nv_t15 rfl ?_)
    refine w_opH (v := .agg [.list tb bs, .int .i64 st]) (env' := _) (H2 := _) rfl (g_load hI.pgs ((mix_late locs rows i (by rw [hI.len]; exact Nat.le_refl i)).trans hri) rfl) rfl (rfl) (fun _ h => h) (nv_t15 rfl ?_)
    refine w_opH (v := .ptr Hx.length 0 0) (env' := _) (H2 := Hx ++ [VO.arr 50 2 [[.nils, .int .i64 0]]]) rfl (g_alloc z50 rfl rfl) rfl (rfl) (fun _ h => h) (nv_t15 rfl ?_)
    refine w_opN (env' := _) rfl rfl rfl (fun _ h => h) (nv_t15 rfl ?_)
    refine w_op0N (H2 := Hx ++ [VO.arr 50 2 [[.list tb bs, .int .i64 st]]]) rfl (g_store get_last rfl rfl sz50 ⟨rfl, by simp, by decide⟩) (set_last) (fun _ h => h) ?_
    refine w_end rfl ?_
    refine w_regionW [(Hx ++ [VO.arr 50 2 [[.list tb bs, .int .i64 st]]] ++ [VO.arr 5 1 bs]), ((Hx ++ [VO.arr 50 2 [[.list tb bs, .int .i64 st]]] ++ [VO.arr 5 1 bs]).set L (VO.arr 50 2 ((mix locs rows).set i [.row false (Hx.length + 1) 0 bs.length, .int .i64 st])))] (by kernel_rfl) ?_
    refine e_op (v := .ptr H.length 0 1) (env' := _) rfl (by decide) (show _ = (0, 1) by kernel_rfl) (by decide) (fun _ _ h => h) (fun q h1 h2 => rfl) rfl (nw_t15 rfl ?_)
    refine e_op (v := .row false L 0 rows.length) (env' := _) rfl (by decide) (show _ = (0, 1) by kernel_rfl) (by decide) (fun _ _ h => h) (fun q h1 h2 => (match q, h2 with | 0, _ => g_load (get_app hI.c) rfl rfl | 1, _ => g_load (get_app (get_app hI.c)) rfl rfl | q + 2, h2 => absurd h2 (by omega))) rfl (nw_t15 rfl ?_)
    refine e_op (env' := _) rfl (by decide) (show _ = (0, 1) by kernel_rfl) (by decide) (fun _ _ h => h) (fun q h1 h2 => rfl) rfl (nw_t15 rfl ?_)
    refine e_op (v := .ptr Hx.length 0 0) (env' := _) rfl (by decide) (show _ = (0, 0) by kernel_rfl) (by decide) (fun _ _ h => h) (fun q h1 h2 => rfl) rfl (nw_t15 rfl ?_)
    refine e_op (v := .list tb bs) (env' := _) rfl (by decide) (show _ = (0, 0) by kernel_rfl) (by decide) (fun _ _ h => h) (fun q h1 h2 => (match q, h2 with | 0, _ => g_load get_last rfl rfl | q + 1, h2 => absurd h2 (by omega))) rfl (nw_t15 rfl ?_)
    refine e_callS (H0 := (Hx ++ [VO.arr 50 2 [[.list tb bs, .int .i64 st]]])) (H1 := (Hx ++ [VO.arr 50 2 [[.list tb bs, .int .i64 st]]] ++ [VO.arr 5 1 bs])) (env' := _) rfl rfl rfl (by kernel_rfl) rfl (show _ = (0, 1) by kernel_rfl) rfl rfl (t29 G _ (Hx.length + 1) (by simp) tb bs hbs hbl hbb) rfl (nw_t15 rfl ?_)
    refine e_op (v := .ptr L i 0) (env' := _) rfl (by decide) (show _ = (1, 1) by kernel_rfl) (by decide) (fun _ _ h => h) (fun q h1 h2 => (match q, h1, h2 with | 0, h1, _ => absurd h1 (by omega) | 1, _, _ => g_index0 el22 (get_app (get_app hI.pgs)) (by omega) (by omega) | q + 2, _, h2 => absurd h2 (by omega))) rfl (nw_t15 rfl ?_)
    refine e_op (v := .ptr L i 0) (env' := _) rfl (by decide) (show _ = (1, 1) by kernel_rfl) (by decide) (fun _ _ h => h) (fun q h1 h2 => rfl) rfl (nw_t15 rfl ?_)
    refine e_eff0 (H0 := (Hx ++ [VO.arr 50 2 [[.list tb bs, .int .i64 st]]] ++ [VO.arr 5 1 bs])) (H1 := ((Hx ++ [VO.arr 50 2 [[.list tb bs, .int .i64 st]]] ++ [VO.arr 5 1 bs]).set L (VO.arr 50 2 ((mix locs rows).set i [.row false (Hx.length + 1) 0 bs.length, .int .i64 st])))) rfl rfl (show _ = (1, 2) by kernel_rfl) rfl rfl (fun _ _ h => h) (g_store (k := 0) (x := .row false (Hx.length + 1) 0 bs.length) (cs := [.row false (Hx.length + 1) 0 bs.length]) (get_app (get_app hI.pgs)) ((mix_late locs rows i (by rw [hI.len]; exact Nat.le_refl i)).trans hri) rfl sz29 ⟨rfl, by simp, by decide⟩) ?_
    refine e_endB rfl ?_
    refine n_then ?_
    refine w_region ?_
    refine w_opN (env' := _) rfl rfl rfl (fun _ h => h) (nv_t15 rfl ?_)
    refine w_opN (env' := _) rfl rfl rfl (fun _ h => h) (nv_t15 rfl ?_)
    refine w_end rfl ?_
    refine hY0 ⟨(i + 1, _, _), hI.next rfl hL3 hri⟩ (by simp only; omega) _ _ ⟨.inl rfl, .inl rfl, .inl rfl, .inr rfl, .inr rfl, .inl rfl, .inl rfl, .inl rfl, .inl rfl, .inl rfl, .inl rfl, .inl rfl, .inl ?_, .inr rfl, .inr rfl, .inr rfl, .inr rfl, .inr rfl, .inr rfl, .inr rfl, .inr rfl, .inr rfl, .inr rfl, .inr rfl, .inr rfl, .inr rfl, .inl rfl, trivial⟩ rfl
    exact (int_succ (by omega)).symm
  · skip
    have hge : ¬ i < rows.length := by simpa using hc13
    refine vc_exit ?_
    refine x_then ?_
    refine x_then ?_
    refine x_same ?_
    refine n_then ?_
    refine vc_seq ?_
    refine w_region ?_
    refine w_opH (v := .agg [.int .i64 last, .row false L 0 rows.length]) (env' := _) (H2 := _) rfl (g_load hI.c rfl rfl) rfl (rfl) (fun _ h => h) (nv_t15 rfl ?_)
    refine w_op0N (H2 := _) rfl (g_store hI.r rfl rfl sz24 ⟨rfl, by simp, by decide⟩) (rfl) (fun _ h => h) ?_
    refine w_end rfl ?_
    refine vc_ret ?_
    refine r_fn (vres_cell rfl rfl (g_vload (get_self hI.r) rfl rfl)) ?_
    -- return 0
    refine ⟨L, locs, rfl, hI.img (by omega) hp hL3, by omega, fun l hl => by have := (hI.gt l hl).1; omega, fun l o h => ?_⟩
    exact get_set (hI.pre l o h) (by have := (List.getElem?_eq_some_iff.1 h).1; omega)
end Go.Vi
