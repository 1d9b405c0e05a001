/- What the small functions compute: walks. -/
import Derived.Test.YtenfndlbldffgaaDoorViY
import Derived.Test.YtenfndlbldffgaaDoorProg
set_option autoImplicit false
set_option linter.unusedVariables false
set_option linter.unusedSimpArgs false
set_option maxRecDepth 100000
namespace Go.Vi
open Go Go.Vi Go.Proofs
attribute [local irreducible] vops vopsD vc

theorem el22 : elemAt Tryd.prog 22 = some (none, 50, 2) := by kernel_rfl
theorem el26 : elemAt Tryd.prog 26 = some (none, 3, 1) := by kernel_rfl
def fidx (p : List AV → Bool) (rows : List (List AV)) : Int := match rows.findIdx? p with
  | some i => i
  | none => -1
theorem fidx_at {p : List AV → Bool} {rows : List (List AV)} {i : Nat} {r : List AV} (hn : ∀ j r, j < i → rows[j]? = some r → p r = false) (hr : rows[i]? = some r) (hp : p r = true) : fidx p rows = i := by
  have : rows.findIdx? p = some i := by
    rw [List.findIdx?_eq_some_iff_getElem]
    obtain ⟨h, e⟩ := List.getElem?_eq_some_iff.1 hr
    refine ⟨h, by rw [e]; exact hp, fun j hj => ?_⟩
    have := hn j _ hj (List.getElem?_eq_getElem (by omega))
    simp [this]
  simp [fidx, this]
theorem fidx_no {p : List AV → Bool} {rows : List (List AV)} {i : Nat} (hn : ∀ j r, j < i → rows[j]? = some r → p r = false) (hi : rows.length ≤ i) : fidx p rows = -1 := by
  have : rows.findIdx? p = none := by
    rw [List.findIdx?_eq_none_iff]
    intro x hx
    obtain ⟨j, hj⟩ := List.mem_iff_getElem?.1 hx
    have := (List.getElem?_eq_some_iff.1 hj).1
    exact hn j x (by omega) hj
  simp [fidx, this]
theorem fidx_ge {p : List AV → Bool} {rows : List (List AV)} : decide (fidx p rows ≥ 0) = rows.any p := by
  unfold fidx
  cases h : rows.findIdx? p with
  | none =>
    rw [List.findIdx?_eq_none_iff] at h
    have : rows.any p = false := by
      rw [List.any_eq_false]; intro x hx; simp [h x hx]
    simp [this]
  | some i =>
    rw [List.findIdx?_eq_some_iff_getElem] at h
    obtain ⟨h1, h2, h3⟩ := h
    have : rows.any p = true := by
      rw [List.any_eq_true]; exact ⟨_, List.getElem_mem h1, h2⟩
    simp [this]
theorem upto_succ {p : List AV → Bool} {rows : List (List AV)} {i : Nat} {r : List AV} (hn : ∀ j r, j < i → rows[j]? = some r → p r = false) (hr : rows[i]? = some r) (hp : p r = false) : ∀ j r, j < i + 1 → rows[j]? = some r → p r = false := by
  intro j r' hj hr'
  by_cases h : j = i
  · subst h; rw [hr] at hr'; cases hr'; exact hp
  · exact hn j r' (by omega) hr'
def badS (last : Int) (r : List AV) : Bool := match r with
  | [b, .int _ st] => (((lrows b).length : Int) != 128) || decide (st < 0) || decide (st > last)
  | _ => true
def validB (last : Int) (rows : List (List AV)) : Bool := decide (0 ≤ last) && decide (last ≤ 1000000) && decide ((rows.length : Int) = 120) && !rows.any (badS last)
def badN (last : Int) (r : List AV) : Bool := match r with
  | [.int _ n] => decide (n < 0) || decide (n > last)
  | _ => true

theorem nv_t26 {P : Program} {G : Glob} {md : Oper → Md} {ops : Array Oper} {r : List Oper} {env : List AV} {x0 x1 x2 x3 x4 x5 x6 x7 x8 x9 x10 x11 x12 x13 x14 x15 x16 x17 x18 x19 : AV} {H : Hp} {K : List AV → Hp → Prop} (he : env = (x0 :: x1 :: x2 :: x3 :: x4 :: x5 :: x6 :: x7 :: x8 :: x9 :: x10 :: x11 :: x12 :: x13 :: x14 :: x15 :: x16 :: x17 :: x18 :: x19 :: [])) (h : vops P G md ops r (x0 :: x1 :: x2 :: x3 :: x4 :: x5 :: x6 :: x7 :: x8 :: x9 :: x10 :: x11 :: x12 :: x13 :: x14 :: x15 :: x16 :: x17 :: x18 :: x19 :: []) H K) : vops P G md ops r env H K := by rw [he]; exact h
theorem nd_t26 {P : Program} {G : Glob} {md : Oper → Md} {ops : Array Oper} {r : List Oper} {env : List AV} {x0 x1 x2 x3 x4 x5 x6 x7 x8 x9 x10 x11 x12 x13 x14 x15 x16 x17 x18 x19 : AV} {H : Hp} {K : List AV → Hp → Prop} (he : env = (x0 :: x1 :: x2 :: x3 :: x4 :: x5 :: x6 :: x7 :: x8 :: x9 :: x10 :: x11 :: x12 :: x13 :: x14 :: x15 :: x16 :: x17 :: x18 :: x19 :: [])) (h : vopsD P G md ops r (x0 :: x1 :: x2 :: x3 :: x4 :: x5 :: x6 :: x7 :: x8 :: x9 :: x10 :: x11 :: x12 :: x13 :: x14 :: x15 :: x16 :: x17 :: x18 :: x19 :: []) H K) : vopsD P G md ops r env H K := by rw [he]; exact h
theorem t26 (G : Glob) (b pages : AV) (st last : Int) (bo : Bool) (hL : IsL b) : Vi.Fn Tryd.prog G 26 [.agg [b, .int .i64 st], .iptr bo [.int .i64 last, pages]] (.bool ((((lrows b).length : Int) != 128) || decide (st < 0) || decide (st > last))) := by
  refine fn_body (fun _ => .iso) Tryd.func26 rfl ?_
  refine vc_norm (env' := [_, _, _, _, _, _, _, _, _, _, _, _, _, _, _, _, _, _, _, _]) (H' := []) rfl rfl ?_
  refine vc_seq ?_
  refine w_region ?_
  refine w_opH (v := .ptr 0 0 0) (env' := _) (H2 := [.arr 50 2 [[_, _]]]) rfl rfl rfl rfl (fun _ h => h) (nv_t26 rfl ?_)
  refine w_opN (env' := _) rfl rfl rfl (fun _ h => h) (nv_t26 rfl ?_)
  refine w_end rfl ?_
  refine vc_seq ?_
  refine w_region ?_
  refine w_opN (v := .ptr 0 0 0) (env' := _) rfl rfl rfl (fun _ h => h) (nv_t26 rfl ?_)
  refine w_opN (env' := _) rfl rfl rfl (fun _ h => h) (nv_t26 rfl ?_)
  first | refine w_opN (env' := _) rfl rfl rfl (fun _ h => h) (nv_t26 rfl ?_) | refine x_len (env' := _) rfl rfl (by assumption) Tryd.underlying29 rfl (nv_t26 rfl ?_)
  refine w_opN (env' := _) rfl rfl rfl (fun _ h => h) (nv_t26 rfl ?_)
  refine w_opN (env' := _) rfl rfl rfl (fun _ h => h) (nv_t26 rfl ?_)
  refine w_split 8 rfl (fun hg8 => ?_) (fun hg8 => ?_)
  · skip
    refine w_norm (env' := [_, _, _, _, _, _, _, _, _, _, _, _, _, _, _, _, _, _, _, _]) (H' := [.arr 50 2 [[_, _]]]) rfl rfl ?_
    refine w_skipN (env' := _) (wanted_f 8 (by kernel_rfl) rfl) rfl (nv_t26 rfl ?_)
    refine w_skipN (env' := _) (wanted_f 8 (by kernel_rfl) rfl) rfl (nv_t26 rfl ?_)
    refine w_skipN (env' := _) (wanted_f 8 (by kernel_rfl) rfl) rfl (nv_t26 rfl ?_)
    refine w_opN (env' := _) rfl rfl rfl (fun _ h => h) (nv_t26 rfl ?_)
    refine w_opN (env' := _) rfl rfl rfl (fun _ h => h) (nv_t26 rfl ?_)
    refine w_skipN (env' := _) (wanted_f 13 (by kernel_rfl) rfl) rfl (nv_t26 rfl ?_)
    refine w_skipN (env' := _) (wanted_f 13 (by kernel_rfl) rfl) rfl (nv_t26 rfl ?_)
    refine w_skipN (env' := _) (wanted_f 13 (by kernel_rfl) rfl) rfl (nv_t26 rfl ?_)
    refine w_skipN (env' := _) (wanted_f 13 (by kernel_rfl) rfl) rfl (nv_t26 rfl ?_)
    refine w_skipN (env' := _) (wanted_f 13 (by kernel_rfl) rfl) rfl (nv_t26 rfl ?_)
    refine w_opN (env' := _) rfl rfl rfl (fun _ h => h) (nv_t26 rfl ?_)
    refine w_opN (env' := _) rfl rfl rfl (fun _ h => h) (nv_t26 rfl ?_)
    refine w_end rfl ?_
    refine vc_ret ?_
    refine r_fn rfl ?_
    -- return 0
    first | (simp_all [retv, ret1, ret0, retD, AV.isVal]; done) | (simp_all [retv, ret1, ret0, retD, AV.isVal]; omega)
  · skip
    refine w_norm (env' := [_, _, _, _, _, _, _, _, _, _, _, _, _, _, _, _, _, _, _, _]) (H' := [.arr 50 2 [[_, _]]]) rfl rfl ?_
    refine w_opN (v := .ptr 0 0 1) (env' := _) (wanted_t 8 (by kernel_rfl) rfl) rfl rfl (fun _ h => h) (nv_t26 rfl ?_)
    refine w_opN (env' := _) (wanted_t 8 (by kernel_rfl) rfl) rfl rfl (fun _ h => h) (nv_t26 rfl ?_)
    refine w_opN (env' := _) (wanted_t 8 (by kernel_rfl) rfl) rfl rfl (fun _ h => h) (nv_t26 rfl ?_)
    refine w_opN (env' := _) rfl rfl rfl (fun _ h => h) (nv_t26 rfl ?_)
    refine w_opN (env' := _) rfl rfl rfl (fun _ h => h) (nv_t26 rfl ?_)
    refine w_split 13 rfl (fun hg13 => ?_) (fun hg13 => ?_)
    · skip
      refine w_norm (env' := [_, _, _, _, _, _, _, _, _, _, _, _, _, _, _, _, _, _, _, _]) (H' := [.arr 50 2 [[_, _]]]) rfl rfl ?_
      refine w_skipN (env' := _) (wanted_f 13 (by kernel_rfl) rfl) rfl (nv_t26 rfl ?_)
      refine w_skipN (env' := _) (wanted_f 13 (by kernel_rfl) rfl) rfl (nv_t26 rfl ?_)
      refine w_skipN (env' := _) (wanted_f 13 (by kernel_rfl) rfl) rfl (nv_t26 rfl ?_)
      refine w_skipN (env' := _) (wanted_f 13 (by kernel_rfl) rfl) rfl (nv_t26 rfl ?_)
      refine w_skipN (env' := _) (wanted_f 13 (by kernel_rfl) rfl) rfl (nv_t26 rfl ?_)
      refine w_opN (env' := _) rfl rfl rfl (fun _ h => h) (nv_t26 rfl ?_)
      refine w_opN (env' := _) rfl rfl rfl (fun _ h => h) (nv_t26 rfl ?_)
      refine w_end rfl ?_
      refine vc_ret ?_
      refine r_fn rfl ?_
      -- return 1
      first | (simp_all [retv, ret1, ret0, retD, AV.isVal]; done) | (simp_all [retv, ret1, ret0, retD, AV.isVal]; omega)
    · skip
      refine w_norm (env' := [_, _, _, _, _, _, _, _, _, _, _, _, _, _, _, _, _, _, _, _]) (H' := [.arr 50 2 [[_, _]]]) rfl rfl ?_
      refine w_opN (v := .ptr 0 0 1) (env' := _) (wanted_t 13 (by kernel_rfl) rfl) rfl rfl (fun _ h => h) (nv_t26 rfl ?_)
      refine w_opN (env' := _) (wanted_t 13 (by kernel_rfl) rfl) rfl rfl (fun _ h => h) (nv_t26 rfl ?_)
      refine w_opN (v := .iptr _ [_, _]) (env' := _) (wanted_t 13 (by kernel_rfl) rfl) rfl rfl (fun _ h => h) (nv_t26 rfl ?_)
      refine w_opN (env' := _) (wanted_t 13 (by kernel_rfl) rfl) rfl rfl (fun _ h => h) (nv_t26 rfl ?_)
      refine w_opN (env' := _) (wanted_t 13 (by kernel_rfl) rfl) rfl rfl (fun _ h => h) (nv_t26 rfl ?_)
      refine w_opN (env' := _) rfl rfl rfl (fun _ h => h) (nv_t26 rfl ?_)
      refine w_opN (env' := _) rfl rfl rfl (fun _ h => h) (nv_t26 rfl ?_)
      refine w_end rfl ?_
      refine vc_ret ?_
      refine r_fn rfl ?_
      -- return 2
      first | (simp_all [retv, ret1, ret0, retD, AV.isVal]; done) | (simp_all [retv, ret1, ret0, retD, AV.isVal]; omega)
theorem nv_t14 {P : Program} {G : Glob} {md : Oper → Md} {ops : Array Oper} {r : List Oper} {env : List AV} {x0 x1 x2 x3 x4 x5 x6 x7 x8 x9 x10 : AV} {H : Hp} {K : List AV → Hp → Prop} (he : env = (x0 :: x1 :: x2 :: x3 :: x4 :: x5 :: x6 :: x7 :: x8 :: x9 :: x10 :: [])) (h : vops P G md ops r (x0 :: x1 :: x2 :: x3 :: x4 :: x5 :: x6 :: x7 :: x8 :: x9 :: x10 :: []) H K) : vops P G md ops r env H K := by rw [he]; exact h
theorem nd_t14 {P : Program} {G : Glob} {md : Oper → Md} {ops : Array Oper} {r : List Oper} {env : List AV} {x0 x1 x2 x3 x4 x5 x6 x7 x8 x9 x10 : AV} {H : Hp} {K : List AV → Hp → Prop} (he : env = (x0 :: x1 :: x2 :: x3 :: x4 :: x5 :: x6 :: x7 :: x8 :: x9 :: x10 :: [])) (h : vopsD P G md ops r (x0 :: x1 :: x2 :: x3 :: x4 :: x5 :: x6 :: x7 :: x8 :: x9 :: x10 :: []) H K) : vopsD P G md ops r env H K := by rw [he]; exact h
theorem t14 (G : Glob) (n last : Int) (bo : Bool) : Vi.Fn Tryd.prog G 14 [.int .i64 n, .iptr bo [.int .i64 last]] (.bool (decide (n < 0) || decide (n > last))) := by
  refine fn_body (fun _ => .iso) Tryd.func14 rfl ?_
  refine vc_norm (env' := [_, _, _, _, _, _, _, _, _, _, _]) (H' := []) rfl rfl ?_
  refine vc_seq ?_
  refine w_region ?_
  refine w_opN (env' := _) rfl rfl rfl (fun _ h => h) (nv_t14 rfl ?_)
  refine w_end rfl ?_
  refine vc_seq ?_
  refine w_region ?_
  refine w_opN (env' := _) rfl rfl rfl (fun _ h => h) (nv_t14 rfl ?_)
  refine w_opN (env' := _) rfl rfl rfl (fun _ h => h) (nv_t14 rfl ?_)
  refine w_opN (env' := _) rfl rfl rfl (fun _ h => h) (nv_t14 rfl ?_)
  refine w_split 6 rfl (fun hg6 => ?_) (fun hg6 => ?_)
  · skip
    refine w_norm (env' := [_, _, _, _, _, _, _, _, _, _, _]) (H' := []) rfl rfl ?_
    refine w_skipN (env' := _) (wanted_f 6 (by kernel_rfl) rfl) rfl (nv_t14 rfl ?_)
    refine w_skipN (env' := _) (wanted_f 6 (by kernel_rfl) rfl) rfl (nv_t14 rfl ?_)
    refine w_skipN (env' := _) (wanted_f 6 (by kernel_rfl) rfl) rfl (nv_t14 rfl ?_)
    refine w_opN (env' := _) rfl rfl rfl (fun _ h => h) (nv_t14 rfl ?_)
    refine w_opN (env' := _) rfl rfl rfl (fun _ h => h) (nv_t14 rfl ?_)
    refine w_end rfl ?_
    refine vc_ret ?_
    refine r_fn rfl ?_
    -- return 0
    first | (simp_all [retv, ret1, ret0, retD, AV.isVal]; done) | (simp_all [retv, ret1, ret0, retD, AV.isVal]; omega)
  · skip
    refine w_norm (env' := [_, _, _, _, _, _, _, _, _, _, _]) (H' := []) rfl rfl ?_
    refine w_opN (env' := _) (wanted_t 6 (by kernel_rfl) rfl) rfl rfl (fun _ h => h) (nv_t14 rfl ?_)
    refine w_opN (env' := _) (wanted_t 6 (by kernel_rfl) rfl) rfl rfl (fun _ h => h) (nv_t14 rfl ?_)
    refine w_opN (env' := _) (wanted_t 6 (by kernel_rfl) rfl) rfl rfl (fun _ h => h) (nv_t14 rfl ?_)
    refine w_opN (env' := _) rfl rfl rfl (fun _ h => h) (nv_t14 rfl ?_)
    refine w_opN (env' := _) rfl rfl rfl (fun _ h => h) (nv_t14 rfl ?_)
    refine w_end rfl ?_
    refine vc_ret ?_
    refine r_fn rfl ?_
    -- return 1
    first | (simp_all [retv, ret1, ret0, retD, AV.isVal]; done) | (simp_all [retv, ret1, ret0, retD, AV.isVal]; omega)
theorem nv_t34 {P : Program} {G : Glob} {md : Oper → Md} {ops : Array Oper} {r : List Oper} {env : List AV} {x0 x1 x2 x3 x4 x5 x6 x7 x8 x9 x10 x11 x12 x13 x14 x15 x16 x17 x18 : AV} {H : Hp} {K : List AV → Hp → Prop} (he : env = (x0 :: x1 :: x2 :: x3 :: x4 :: x5 :: x6 :: x7 :: x8 :: x9 :: x10 :: x11 :: x12 :: x13 :: x14 :: x15 :: x16 :: x17 :: x18 :: [])) (h : vops P G md ops r (x0 :: x1 :: x2 :: x3 :: x4 :: x5 :: x6 :: x7 :: x8 :: x9 :: x10 :: x11 :: x12 :: x13 :: x14 :: x15 :: x16 :: x17 :: x18 :: []) H K) : vops P G md ops r env H K := by rw [he]; exact h
theorem nd_t34 {P : Program} {G : Glob} {md : Oper → Md} {ops : Array Oper} {r : List Oper} {env : List AV} {x0 x1 x2 x3 x4 x5 x6 x7 x8 x9 x10 x11 x12 x13 x14 x15 x16 x17 x18 : AV} {H : Hp} {K : List AV → Hp → Prop} (he : env = (x0 :: x1 :: x2 :: x3 :: x4 :: x5 :: x6 :: x7 :: x8 :: x9 :: x10 :: x11 :: x12 :: x13 :: x14 :: x15 :: x16 :: x17 :: x18 :: [])) (h : vopsD P G md ops r (x0 :: x1 :: x2 :: x3 :: x4 :: x5 :: x6 :: x7 :: x8 :: x9 :: x10 :: x11 :: x12 :: x13 :: x14 :: x15 :: x16 :: x17 :: x18 :: []) H K) : vopsD P G md ops r env H K := by rw [he]; exact h
theorem t34 (G : Glob) (x : AV) (g : Nat) (caps : List AV) (p : List AV → Bool) (hL : IsL x) (hlen : (lrows x).length < 9223372036854775808) (hcl : mapL (lend0 []) caps = some caps) (he : enterOk Tryd.prog g = true) (hp : ∀ r ∈ lrows x, ∃ b s, r = [b, s] ∧ lend [] (.agg [b, s]) = some (.agg [b, s]) ∧ Vi.Fn Tryd.prog G g ((.agg [b, s]) :: caps) (.bool (p r))) : Vi.Fn Tryd.prog G 34 [x, .clo g caps] (.int .i64 (fidx p (lrows x))) := by
  refine fn_body (fun _ => .iso) Tryd.func34 rfl ?_
  refine vc_norm (env' := [_, _, _, _, _, _, _, _, _, _, _, _, _, _, _, _, _, _, _]) (H' := []) rfl rfl ?_
  refine vc_seq ?_
  refine w_region ?_
  refine w_opN (env' := _) rfl rfl rfl (fun _ h => h) (nv_t34 rfl ?_)
  refine w_end rfl ?_
  refine vc_seq ?_
  refine vc_seq ?_
  refine w_region ?_
  refine w_opN (env' := _) rfl rfl rfl (fun _ h => h) (nv_t34 rfl ?_)
  first | refine w_opN (env' := _) rfl rfl rfl (fun _ h => h) (nv_t34 rfl ?_) | refine x_len (env' := _) rfl rfl (by assumption) Tryd.underlying22 rfl (nv_t34 rfl ?_)
  refine w_opN (env' := _) rfl rfl rfl (fun _ h => h) (nv_t34 rfl ?_)
  refine w_end rfl ?_
  refine vc_block ?_
  refine vc_loopU (α := { i : Nat // (∀ j r, j < i → (lrows x)[j]? = some r → p r = false) ∧ i ≤ (lrows x).length }) (fun i => [none, none, none, none, some .undef, some .undef, none, none, some (.int .i64 (i.1 : Nat)), some .undef, some .undef, some .undef, some .undef, some .undef, some .undef, some .undef, some .undef, some .undef, some .undef]) (fun i => (lrows x).length - i.1) ⟨0, fun j r h => by omega, by omega⟩ ⟨.inl rfl, .inl rfl, .inl rfl, .inl rfl, .inr rfl, .inr rfl, .inl rfl, .inl rfl, .inl rfl, .inr rfl, .inr rfl, .inr rfl, .inr rfl, .inr rfl, .inr rfl, .inr rfl, .inr rfl, .inr rfl, .inr rfl, trivial⟩ (fun _ => ⟨Nat.zero_le _, ⟨(by first | exact trivial | exact IsL.belowV (by assumption) | ((repeat' (first | exact trivial | exact IsL.below (by assumption) | refine ⟨?_, ?_⟩)); done) | (simp [valB, leafB, cellsB, IsL.below, *]; done) | (simp [valB, leafB, cellsB, IsL.below, *]; omega)), (cellsB_lent hcl), trivial, trivial, trivial, trivial, (by first | exact trivial | exact IsL.belowV (by assumption) | ((repeat' (first | exact trivial | exact IsL.below (by assumption) | refine ⟨?_, ?_⟩)); done) | (simp [valB, leafB, cellsB, IsL.below, *]; done) | (simp [valB, leafB, cellsB, IsL.below, *]; omega)), (by first | exact trivial | exact IsL.belowV (by assumption) | ((repeat' (first | exact trivial | exact IsL.below (by assumption) | refine ⟨?_, ?_⟩)); done) | (simp [valB, leafB, cellsB, IsL.below, *]; done) | (simp [valB, leafB, cellsB, IsL.below, *]; omega)), (by first | exact trivial | exact IsL.belowV (by assumption) | ((repeat' (first | exact trivial | exact IsL.below (by assumption) | refine ⟨?_, ?_⟩)); done) | (simp [valB, leafB, cellsB, IsL.below, *]; done) | (simp [valB, leafB, cellsB, IsL.below, *]; omega)), trivial, trivial, trivial, trivial, trivial, trivial, trivial, trivial, trivial, trivial, trivial⟩, (by repeat' first | exact trivial | exact IsL.below (by assumption) | refine ⟨?_, ?_⟩ | (simp [leafB]; done))⟩) ?_
  rintro ⟨i, hn, hi⟩ Y0 hY0
  refine vc_norm (env' := [_, _, _, _, _, _, _, _, _, _, _, _, _, _, _, _, _, _, _]) (H' := []) rfl rfl ?_
  refine vc_seq ?_
  refine w_region ?_
  refine w_opN (env' := _) rfl rfl rfl (fun _ h => h) (nv_t34 rfl ?_)
  refine w_end rfl ?_
  refine vc_seq ?_
  refine vc_cond rfl (fun hc9 => ?_) (fun hc9 => ?_)
  · skip
    have hlt : i < (lrows x).length := by simpa using hc9
    have hri : (lrows x)[i]? = some (lrows x)[i] := List.getElem?_eq_getElem hlt
    obtain ⟨b, s, hx, hl, hF⟩ := hp _ (List.getElem_mem hlt)
    rw [hx] at hri hF
    refine vc_skip ?_
    refine n_then ?_
    refine vc_seq ?_
    refine vc_block ?_
    refine vc_seq ?_
    refine w_region ?_
    refine w_opN (env' := _) rfl rfl rfl (fun _ h => h) (nv_t34 rfl ?_)
    refine w_opN (env' := _) rfl rfl rfl (fun _ h => h) (nv_t34 rfl ?_)
    refine w_end rfl ?_
    refine vc_seq ?_
    refine w_region ?_
    refine w_opN (env' := _) rfl rfl rfl (fun _ h => h) (nv_t34 rfl ?_)
    refine w_opN (env' := _) rfl rfl rfl (fun _ h => h) (nv_t34 rfl ?_)
    refine w_opN (env' := _) rfl rfl rfl (fun _ h => h) (nv_t34 rfl ?_)
    first | refine w_opN (v := .iptr _ [_, _]) (env' := _) rfl rfl rfl (fun _ h => h) (nv_t34 rfl ?_) | (refine x_index rfl rfl (by assumption) rfl el22 (by omega) (by assumption) rfl (fun bo => ?_); refine nv_t34 rfl ?_)
    refine w_opN (v := .agg [_, _]) (env' := _) rfl rfl rfl (fun _ h => h) (nv_t34 rfl ?_)
    refine w_callI (env' := _) rfl rfl rfl he rfl (mapL_app hl (lends_of0 hcl)) (hF) rfl (nv_t34 rfl ?_)
    refine w_end rfl ?_
    refine vc_cond rfl (fun hc16 => ?_) (fun hc16 => ?_)
    · skip
      refine vc_seq ?_
      refine w_region ?_
      refine w_opN (env' := _) rfl rfl rfl (fun _ h => h) (nv_t34 rfl ?_)
      refine w_opN (env' := _) rfl rfl rfl (fun _ h => h) (nv_t34 rfl ?_)
      refine w_end rfl ?_
      refine vc_ret ?_
      refine r_block ?_
      refine r_then ?_
      refine r_then ?_
      refine r_block ?_
      refine r_then ?_
      refine r_fn rfl ?_
      -- return 0
      show some (AV.int .i64 (i : Int)) = _
      rw [fidx_at hn hri hc16]
    · skip
      refine vc_skip ?_
      refine n_block ?_
      refine n_then ?_
      refine w_region ?_
      refine w_opN (env' := _) rfl rfl rfl (fun _ h => h) (nv_t34 rfl ?_)
      refine w_opN (env' := _) rfl rfl rfl (fun _ h => h) (nv_t34 rfl ?_)
      refine w_end rfl ?_
      refine hY0 ⟨i + 1, upto_succ hn hri (by simpa using hc16), hlt⟩ (by simp only; omega) _ _ _ ⟨.inl rfl, .inl rfl, .inl rfl, .inl rfl, .inr rfl, .inr rfl, .inl rfl, .inl rfl, .inl ?_, .inr rfl, .inr rfl, .inr rfl, .inr rfl, .inr rfl, .inr rfl, .inr rfl, .inr rfl, .inr rfl, .inr rfl, trivial⟩ rfl
      exact (int_succ (by omega)).symm
  · skip
    have hge : ¬ i < (lrows x).length := by simpa using hc9
    refine vc_exit ?_
    refine x_then ?_
    refine x_then ?_
    refine x_same ?_
    refine n_then ?_
    refine vc_seq ?_
    refine w_region ?_
    refine w_opN (env' := _) rfl rfl rfl (fun _ h => h) (nv_t34 rfl ?_)
    refine w_end rfl ?_
    refine vc_ret ?_
    refine r_fn rfl ?_
    -- return 1
    show some (AV.int .i64 (-1)) = _
    rw [fidx_no hn (by omega)]
theorem nv_t27 {P : Program} {G : Glob} {md : Oper → Md} {ops : Array Oper} {r : List Oper} {env : List AV} {x0 x1 x2 x3 x4 x5 x6 x7 x8 x9 x10 x11 x12 x13 x14 x15 x16 x17 x18 : AV} {H : Hp} {K : List AV → Hp → Prop} (he : env = (x0 :: x1 :: x2 :: x3 :: x4 :: x5 :: x6 :: x7 :: x8 :: x9 :: x10 :: x11 :: x12 :: x13 :: x14 :: x15 :: x16 :: x17 :: x18 :: [])) (h : vops P G md ops r (x0 :: x1 :: x2 :: x3 :: x4 :: x5 :: x6 :: x7 :: x8 :: x9 :: x10 :: x11 :: x12 :: x13 :: x14 :: x15 :: x16 :: x17 :: x18 :: []) H K) : vops P G md ops r env H K := by rw [he]; exact h
theorem nd_t27 {P : Program} {G : Glob} {md : Oper → Md} {ops : Array Oper} {r : List Oper} {env : List AV} {x0 x1 x2 x3 x4 x5 x6 x7 x8 x9 x10 x11 x12 x13 x14 x15 x16 x17 x18 : AV} {H : Hp} {K : List AV → Hp → Prop} (he : env = (x0 :: x1 :: x2 :: x3 :: x4 :: x5 :: x6 :: x7 :: x8 :: x9 :: x10 :: x11 :: x12 :: x13 :: x14 :: x15 :: x16 :: x17 :: x18 :: [])) (h : vopsD P G md ops r (x0 :: x1 :: x2 :: x3 :: x4 :: x5 :: x6 :: x7 :: x8 :: x9 :: x10 :: x11 :: x12 :: x13 :: x14 :: x15 :: x16 :: x17 :: x18 :: []) H K) : vopsD P G md ops r env H K := by rw [he]; exact h
theorem t27 (G : Glob) (x : AV) (g : Nat) (caps : List AV) (p : List AV → Bool) (hL : IsL x) (hlen : (lrows x).length < 9223372036854775808) (hcl : mapL (lend0 []) caps = some caps) (he : enterOk Tryd.prog g = true) (hp : ∀ r ∈ lrows x, ∃ n, r = [n] ∧ lend [] (n) = some (n) ∧ Vi.Fn Tryd.prog G g ((n) :: caps) (.bool (p r))) : Vi.Fn Tryd.prog G 27 [x, .clo g caps] (.int .i64 (fidx p (lrows x))) := by
  refine fn_body (fun _ => .iso) Tryd.func27 rfl ?_
  refine vc_norm (env' := [_, _, _, _, _, _, _, _, _, _, _, _, _, _, _, _, _, _, _]) (H' := []) rfl rfl ?_
  refine vc_seq ?_
  refine w_region ?_
  refine w_opN (env' := _) rfl rfl rfl (fun _ h => h) (nv_t27 rfl ?_)
  refine w_end rfl ?_
  refine vc_seq ?_
  refine vc_seq ?_
  refine w_region ?_
  refine w_opN (env' := _) rfl rfl rfl (fun _ h => h) (nv_t27 rfl ?_)
  first | refine w_opN (env' := _) rfl rfl rfl (fun _ h => h) (nv_t27 rfl ?_) | refine x_len (env' := _) rfl rfl (by assumption) Tryd.underlying26 rfl (nv_t27 rfl ?_)
  refine w_opN (env' := _) rfl rfl rfl (fun _ h => h) (nv_t27 rfl ?_)
  refine w_end rfl ?_
  refine vc_block ?_
  refine vc_loopU (α := { i : Nat // (∀ j r, j < i → (lrows x)[j]? = some r → p r = false) ∧ i ≤ (lrows x).length }) (fun i => [none, none, none, none, some .undef, some .undef, none, none, some (.int .i64 (i.1 : Nat)), some .undef, some .undef, some .undef, some .undef, some .undef, some .undef, some .undef, some .undef, some .undef, some .undef]) (fun i => (lrows x).length - i.1) ⟨0, fun j r h => by omega, by omega⟩ ⟨.inl rfl, .inl rfl, .inl rfl, .inl rfl, .inr rfl, .inr rfl, .inl rfl, .inl rfl, .inl rfl, .inr rfl, .inr rfl, .inr rfl, .inr rfl, .inr rfl, .inr rfl, .inr rfl, .inr rfl, .inr rfl, .inr rfl, trivial⟩ (fun _ => ⟨Nat.zero_le _, ⟨(by first | exact trivial | exact IsL.belowV (by assumption) | ((repeat' (first | exact trivial | exact IsL.below (by assumption) | refine ⟨?_, ?_⟩)); done) | (simp [valB, leafB, cellsB, IsL.below, *]; done) | (simp [valB, leafB, cellsB, IsL.below, *]; omega)), (cellsB_lent hcl), trivial, trivial, trivial, trivial, (by first | exact trivial | exact IsL.belowV (by assumption) | ((repeat' (first | exact trivial | exact IsL.below (by assumption) | refine ⟨?_, ?_⟩)); done) | (simp [valB, leafB, cellsB, IsL.below, *]; done) | (simp [valB, leafB, cellsB, IsL.below, *]; omega)), (by first | exact trivial | exact IsL.belowV (by assumption) | ((repeat' (first | exact trivial | exact IsL.below (by assumption) | refine ⟨?_, ?_⟩)); done) | (simp [valB, leafB, cellsB, IsL.below, *]; done) | (simp [valB, leafB, cellsB, IsL.below, *]; omega)), (by first | exact trivial | exact IsL.belowV (by assumption) | ((repeat' (first | exact trivial | exact IsL.below (by assumption) | refine ⟨?_, ?_⟩)); done) | (simp [valB, leafB, cellsB, IsL.below, *]; done) | (simp [valB, leafB, cellsB, IsL.below, *]; omega)), trivial, trivial, trivial, trivial, trivial, trivial, trivial, trivial, trivial, trivial, trivial⟩, (by repeat' first | exact trivial | exact IsL.below (by assumption) | refine ⟨?_, ?_⟩ | (simp [leafB]; done))⟩) ?_
  rintro ⟨i, hn, hi⟩ Y0 hY0
  refine vc_norm (env' := [_, _, _, _, _, _, _, _, _, _, _, _, _, _, _, _, _, _, _]) (H' := []) rfl rfl ?_
  refine vc_seq ?_
  refine w_region ?_
  refine w_opN (env' := _) rfl rfl rfl (fun _ h => h) (nv_t27 rfl ?_)
  refine w_end rfl ?_
  refine vc_seq ?_
  refine vc_cond rfl (fun hc9 => ?_) (fun hc9 => ?_)
  · skip
    have hlt : i < (lrows x).length := by simpa using hc9
    have hri : (lrows x)[i]? = some (lrows x)[i] := List.getElem?_eq_getElem hlt
    obtain ⟨n, hx, hl, hF⟩ := hp _ (List.getElem_mem hlt)
    rw [hx] at hri hF
    refine vc_skip ?_
    refine n_then ?_
    refine vc_seq ?_
    refine vc_block ?_
    refine vc_seq ?_
    refine w_region ?_
    refine w_opN (env' := _) rfl rfl rfl (fun _ h => h) (nv_t27 rfl ?_)
    refine w_opN (env' := _) rfl rfl rfl (fun _ h => h) (nv_t27 rfl ?_)
    refine w_end rfl ?_
    refine vc_seq ?_
    refine w_region ?_
    refine w_opN (env' := _) rfl rfl rfl (fun _ h => h) (nv_t27 rfl ?_)
    refine w_opN (env' := _) rfl rfl rfl (fun _ h => h) (nv_t27 rfl ?_)
    refine w_opN (env' := _) rfl rfl rfl (fun _ h => h) (nv_t27 rfl ?_)
    first | refine w_opN (v := .iptr _ [_]) (env' := _) rfl rfl rfl (fun _ h => h) (nv_t27 rfl ?_) | (refine x_index rfl rfl (by assumption) rfl el26 (by omega) (by assumption) rfl (fun bo => ?_); refine nv_t27 rfl ?_)
    refine w_opN (env' := _) rfl rfl rfl (fun _ h => h) (nv_t27 rfl ?_)
    refine w_callI (env' := _) rfl rfl rfl he rfl (mapL_app hl (lends_of0 hcl)) (hF) rfl (nv_t27 rfl ?_)
    refine w_end rfl ?_
    refine vc_cond rfl (fun hc16 => ?_) (fun hc16 => ?_)
    · skip
      refine vc_seq ?_
      refine w_region ?_
      refine w_opN (env' := _) rfl rfl rfl (fun _ h => h) (nv_t27 rfl ?_)
      refine w_opN (env' := _) rfl rfl rfl (fun _ h => h) (nv_t27 rfl ?_)
      refine w_end rfl ?_
      refine vc_ret ?_
      refine r_block ?_
      refine r_then ?_
      refine r_then ?_
      refine r_block ?_
      refine r_then ?_
      refine r_fn rfl ?_
      -- return 0
      show some (AV.int .i64 (i : Int)) = _
      rw [fidx_at hn hri hc16]
    · skip
      refine vc_skip ?_
      refine n_block ?_
      refine n_then ?_
      refine w_region ?_
      refine w_opN (env' := _) rfl rfl rfl (fun _ h => h) (nv_t27 rfl ?_)
      refine w_opN (env' := _) rfl rfl rfl (fun _ h => h) (nv_t27 rfl ?_)
      refine w_end rfl ?_
      refine hY0 ⟨i + 1, upto_succ hn hri (by simpa using hc16), hlt⟩ (by simp only; omega) _ _ _ ⟨.inl rfl, .inl rfl, .inl rfl, .inl rfl, .inr rfl, .inr rfl, .inl rfl, .inl rfl, .inl ?_, .inr rfl, .inr rfl, .inr rfl, .inr rfl, .inr rfl, .inr rfl, .inr rfl, .inr rfl, .inr rfl, .inr rfl, trivial⟩ rfl
      exact (int_succ (by omega)).symm
  · skip
    have hge : ¬ i < (lrows x).length := by simpa using hc9
    refine vc_exit ?_
    refine x_then ?_
    refine x_then ?_
    refine x_same ?_
    refine n_then ?_
    refine vc_seq ?_
    refine w_region ?_
    refine w_opN (env' := _) rfl rfl rfl (fun _ h => h) (nv_t27 rfl ?_)
    refine w_end rfl ?_
    refine vc_ret ?_
    refine r_fn rfl ?_
    -- return 1
    show some (AV.int .i64 (-1)) = _
    rw [fidx_no hn (by omega)]
theorem nv_t25 {P : Program} {G : Glob} {md : Oper → Md} {ops : Array Oper} {r : List Oper} {env : List AV} {x0 x1 x2 x3 x4 x5 x6 x7 x8 : AV} {H : Hp} {K : List AV → Hp → Prop} (he : env = (x0 :: x1 :: x2 :: x3 :: x4 :: x5 :: x6 :: x7 :: x8 :: [])) (h : vops P G md ops r (x0 :: x1 :: x2 :: x3 :: x4 :: x5 :: x6 :: x7 :: x8 :: []) H K) : vops P G md ops r env H K := by rw [he]; exact h
theorem nd_t25 {P : Program} {G : Glob} {md : Oper → Md} {ops : Array Oper} {r : List Oper} {env : List AV} {x0 x1 x2 x3 x4 x5 x6 x7 x8 : AV} {H : Hp} {K : List AV → Hp → Prop} (he : env = (x0 :: x1 :: x2 :: x3 :: x4 :: x5 :: x6 :: x7 :: x8 :: [])) (h : vopsD P G md ops r (x0 :: x1 :: x2 :: x3 :: x4 :: x5 :: x6 :: x7 :: x8 :: []) H K) : vopsD P G md ops r env H K := by rw [he]; exact h
theorem t25 (G : Glob) (x : AV) (g : Nat) (caps : List AV) (p : List AV → Bool) (hL : IsL x) (hlen : (lrows x).length < 9223372036854775808) (hcl : mapL (lend0 []) caps = some caps) (he : enterOk Tryd.prog g = true) (hp : ∀ r ∈ lrows x, ∃ b s, r = [b, s] ∧ lend [] (.agg [b, s]) = some (.agg [b, s]) ∧ Vi.Fn Tryd.prog G g ((.agg [b, s]) :: caps) (.bool (p r))) : Vi.Fn Tryd.prog G 25 [x, .clo g caps] (.bool ((lrows x).any p)) := by
  have hclo : lend [] (.clo g caps) = some (.clo g caps) := lend_clo hcl
  refine fn_body (fun _ => .iso) Tryd.func25 rfl ?_
  refine vc_norm (env' := [_, _, _, _, _, _, _, _, _]) (H' := []) rfl rfl ?_
  refine vc_seq ?_
  refine w_region ?_
  refine w_opN (env' := _) rfl rfl rfl (fun _ h => h) (nv_t25 rfl ?_)
  refine w_end rfl ?_
  refine vc_seq ?_
  refine w_region ?_
  refine w_opN (env' := _) rfl rfl rfl (fun _ h => h) (nv_t25 rfl ?_)
  refine w_opN (env' := _) rfl rfl rfl (fun _ h => h) (nv_t25 rfl ?_)
  refine w_callI (env' := _) rfl rfl rfl (by kernel_rfl) rfl (mapL_cons hL.lend (mapL_cons hclo rfl)) (t34 G x g caps p hL hlen hcl he hp) rfl (nv_t25 rfl ?_)
  refine w_opN (env' := _) rfl rfl rfl (fun _ h => h) (nv_t25 rfl ?_)
  refine w_opN (env' := _) rfl rfl rfl (fun _ h => h) (nv_t25 rfl ?_)
  refine w_end rfl ?_
  refine vc_ret ?_
  refine r_fn rfl ?_
  -- return 0
  show some (AV.bool (decide (fidx p (lrows x) ≥ 0))) = _
  rw [fidx_ge]
theorem nv_t13 {P : Program} {G : Glob} {md : Oper → Md} {ops : Array Oper} {r : List Oper} {env : List AV} {x0 x1 x2 x3 x4 x5 x6 x7 x8 : AV} {H : Hp} {K : List AV → Hp → Prop} (he : env = (x0 :: x1 :: x2 :: x3 :: x4 :: x5 :: x6 :: x7 :: x8 :: [])) (h : vops P G md ops r (x0 :: x1 :: x2 :: x3 :: x4 :: x5 :: x6 :: x7 :: x8 :: []) H K) : vops P G md ops r env H K := by rw [he]; exact h
theorem nd_t13 {P : Program} {G : Glob} {md : Oper → Md} {ops : Array Oper} {r : List Oper} {env : List AV} {x0 x1 x2 x3 x4 x5 x6 x7 x8 : AV} {H : Hp} {K : List AV → Hp → Prop} (he : env = (x0 :: x1 :: x2 :: x3 :: x4 :: x5 :: x6 :: x7 :: x8 :: [])) (h : vopsD P G md ops r (x0 :: x1 :: x2 :: x3 :: x4 :: x5 :: x6 :: x7 :: x8 :: []) H K) : vopsD P G md ops r env H K := by rw [he]; exact h
theorem t13 (G : Glob) (x : AV) (g : Nat) (caps : List AV) (p : List AV → Bool) (hL : IsL x) (hlen : (lrows x).length < 9223372036854775808) (hcl : mapL (lend0 []) caps = some caps) (he : enterOk Tryd.prog g = true) (hp : ∀ r ∈ lrows x, ∃ n, r = [n] ∧ lend [] (n) = some (n) ∧ Vi.Fn Tryd.prog G g ((n) :: caps) (.bool (p r))) : Vi.Fn Tryd.prog G 13 [x, .clo g caps] (.bool ((lrows x).any p)) := by
  have hclo : lend [] (.clo g caps) = some (.clo g caps) := lend_clo hcl
  refine fn_body (fun _ => .iso) Tryd.func13 rfl ?_
  refine vc_norm (env' := [_, _, _, _, _, _, _, _, _]) (H' := []) rfl rfl ?_
  refine vc_seq ?_
  refine w_region ?_
  refine w_opN (env' := _) rfl rfl rfl (fun _ h => h) (nv_t13 rfl ?_)
  refine w_end rfl ?_
  refine vc_seq ?_
  refine w_region ?_
  refine w_opN (env' := _) rfl rfl rfl (fun _ h => h) (nv_t13 rfl ?_)
  refine w_opN (env' := _) rfl rfl rfl (fun _ h => h) (nv_t13 rfl ?_)
  refine w_callI (env' := _) rfl rfl rfl (by kernel_rfl) rfl (mapL_cons hL.lend (mapL_cons hclo rfl)) (t27 G x g caps p hL hlen hcl he hp) rfl (nv_t13 rfl ?_)
  refine w_opN (env' := _) rfl rfl rfl (fun _ h => h) (nv_t13 rfl ?_)
  refine w_opN (env' := _) rfl rfl rfl (fun _ h => h) (nv_t13 rfl ?_)
  refine w_end rfl ?_
  refine vc_ret ?_
  refine r_fn rfl ?_
  -- return 0
  show some (AV.bool (decide (fidx p (lrows x) ≥ 0))) = _
  rw [fidx_ge]
theorem nv_t11 {P : Program} {G : Glob} {md : Oper → Md} {ops : Array Oper} {r : List Oper} {env : List AV} {x0 x1 x2 x3 x4 x5 x6 x7 x8 x9 x10 x11 x12 x13 x14 x15 x16 x17 x18 x19 x20 x21 x22 x23 : AV} {H : Hp} {K : List AV → Hp → Prop} (he : env = (x0 :: x1 :: x2 :: x3 :: x4 :: x5 :: x6 :: x7 :: x8 :: x9 :: x10 :: x11 :: x12 :: x13 :: x14 :: x15 :: x16 :: x17 :: x18 :: x19 :: x20 :: x21 :: x22 :: x23 :: [])) (h : vops P G md ops r (x0 :: x1 :: x2 :: x3 :: x4 :: x5 :: x6 :: x7 :: x8 :: x9 :: x10 :: x11 :: x12 :: x13 :: x14 :: x15 :: x16 :: x17 :: x18 :: x19 :: x20 :: x21 :: x22 :: x23 :: []) H K) : vops P G md ops r env H K := by rw [he]; exact h
theorem nd_t11 {P : Program} {G : Glob} {md : Oper → Md} {ops : Array Oper} {r : List Oper} {env : List AV} {x0 x1 x2 x3 x4 x5 x6 x7 x8 x9 x10 x11 x12 x13 x14 x15 x16 x17 x18 x19 x20 x21 x22 x23 : AV} {H : Hp} {K : List AV → Hp → Prop} (he : env = (x0 :: x1 :: x2 :: x3 :: x4 :: x5 :: x6 :: x7 :: x8 :: x9 :: x10 :: x11 :: x12 :: x13 :: x14 :: x15 :: x16 :: x17 :: x18 :: x19 :: x20 :: x21 :: x22 :: x23 :: [])) (h : vopsD P G md ops r (x0 :: x1 :: x2 :: x3 :: x4 :: x5 :: x6 :: x7 :: x8 :: x9 :: x10 :: x11 :: x12 :: x13 :: x14 :: x15 :: x16 :: x17 :: x18 :: x19 :: x20 :: x21 :: x22 :: x23 :: []) H K) : vopsD P G md ops r env H K := by rw [he]; exact h
theorem t11 (G : Glob) (last : Int) (pages : AV) (hL : IsL pages) (hv : pages.isVal = true) (hlen : (lrows pages).length < 9223372036854775808) (hp : ∀ r ∈ lrows pages, ∃ b st, r = [b, .int .i64 st] ∧ IsL b) : Vi.Fn Tryd.prog G 11 [.agg [.int .i64 last, pages]] (.bool (validB last (lrows pages))) := by
  have hcont := t25 G pages 26 [.iptr true [.int .i64 last, pages]] (badS last) hL hlen rfl (by kernel_rfl) (fun r hr => by
    obtain ⟨b, st, rfl, hLb⟩ := hp r hr
    exact ⟨b, .int .i64 st, rfl, lend_agg (mapL_cons hLb.lend0 rfl), t26 G b pages st last true hLb⟩)
  refine fn_body (fun _ => .iso) Tryd.func11 rfl ?_
  refine vc_norm (env' := (_ :: _ :: _ :: _ :: _ :: _ :: _ :: _ :: _ :: _ :: _ :: _ :: _ :: _ :: _ :: _ :: _ :: _ :: _ :: _ :: _ :: _ :: _ :: _ :: [])) (H' := []) rfl rfl ?_
  refine vc_seq ?_
  refine w_region ?_
  refine w_opH (v := .ptr 0 0 0) (env' := _) (H2 := [.arr 24 2 [[_, _]]]) rfl rfl rfl rfl (fun _ h => h) (nv_t11 rfl ?_)
  refine w_opN (env' := _) rfl rfl rfl (fun _ h => h) (nv_t11 rfl ?_)
  refine w_end rfl ?_
  refine vc_seq ?_
  refine w_region ?_
  refine w_opN (v := .ptr 0 0 0) (env' := _) rfl rfl rfl (fun _ h => h) (nv_t11 rfl ?_)
  refine w_opN (env' := _) rfl rfl rfl (fun _ h => h) (nv_t11 rfl ?_)
  refine w_opN (env' := _) rfl rfl rfl (fun _ h => h) (nv_t11 rfl ?_)
  refine w_opN (env' := _) rfl rfl rfl (fun _ h => h) (nv_t11 rfl ?_)
  refine w_split 6 rfl (fun hg6 => ?_) (fun hg6 => ?_)
  · skip
    refine w_norm (env' := (_ :: _ :: _ :: _ :: _ :: _ :: _ :: _ :: _ :: _ :: _ :: _ :: _ :: _ :: _ :: _ :: _ :: _ :: _ :: _ :: _ :: _ :: _ :: _ :: [])) (H' := [.arr 24 2 [[_, _]]]) rfl rfl ?_
    refine w_opN (v := .ptr 0 0 0) (env' := _) (wanted_t 6 (by kernel_rfl) rfl) rfl rfl (fun _ h => h) (nv_t11 rfl ?_)
    refine w_opN (env' := _) (wanted_t 6 (by kernel_rfl) rfl) rfl rfl (fun _ h => h) (nv_t11 rfl ?_)
    refine w_opN (env' := _) (wanted_t 6 (by kernel_rfl) rfl) rfl rfl (fun _ h => h) (nv_t11 rfl ?_)
    refine w_opN (env' := _) rfl rfl rfl (fun _ h => h) (nv_t11 rfl ?_)
    refine w_opN (env' := _) rfl rfl rfl (fun _ h => h) (nv_t11 rfl ?_)
    refine w_split 11 rfl (fun hg11 => ?_) (fun hg11 => ?_)
    · skip
      refine w_norm (env' := (_ :: _ :: _ :: _ :: _ :: _ :: _ :: _ :: _ :: _ :: _ :: _ :: _ :: _ :: _ :: _ :: _ :: _ :: _ :: _ :: _ :: _ :: _ :: _ :: [])) (H' := [.arr 24 2 [[_, _]]]) rfl rfl ?_
      refine w_opN (v := .ptr 0 0 1) (env' := _) (wanted_t 11 (by kernel_rfl) rfl) rfl rfl (fun _ h => h) (nv_t11 rfl ?_)
      refine w_opN (env' := _) (wanted_t 11 (by kernel_rfl) rfl) rfl rfl (fun _ h => h) (nv_t11 rfl ?_)
      first | refine w_opN (env' := _) (wanted_t 11 (by kernel_rfl) rfl) rfl rfl (fun _ h => h) (nv_t11 rfl ?_) | refine x_len (env' := _) (wanted_t 11 (by kernel_rfl) rfl) rfl (by assumption) Tryd.underlying22 rfl (nv_t11 rfl ?_)
      refine w_opN (env' := _) (wanted_t 11 (by kernel_rfl) rfl) rfl rfl (fun _ h => h) (nv_t11 rfl ?_)
      refine w_opN (env' := _) rfl rfl rfl (fun _ h => h) (nv_t11 rfl ?_)
      refine w_opN (env' := _) rfl rfl rfl (fun _ h => h) (nv_t11 rfl ?_)
      refine w_split 17 rfl (fun hg17 => ?_) (fun hg17 => ?_)
      · skip
        refine w_norm (env' := (_ :: _ :: _ :: _ :: _ :: _ :: _ :: _ :: _ :: _ :: _ :: _ :: _ :: _ :: _ :: _ :: _ :: _ :: _ :: _ :: _ :: _ :: _ :: _ :: [])) (H' := [.arr 24 2 [[_, _]]]) rfl rfl ?_
        refine w_opN (v := .ptr 0 0 1) (env' := _) (wanted_t 17 (by kernel_rfl) rfl) rfl rfl (fun _ h => h) (nv_t11 rfl ?_)
        refine w_opN (env' := _) (wanted_t 17 (by kernel_rfl) rfl) rfl rfl (fun _ h => h) (nv_t11 rfl ?_)
        refine w_opN (env' := _) (wanted_t 17 (by kernel_rfl) rfl) rfl rfl (fun _ h => h) (nv_t11 rfl ?_)
        refine w_callI (env' := _) (wanted_t 17 (by kernel_rfl) rfl) rfl rfl (by kernel_rfl) rfl (by repeat' first | exact mapL_nil | exact IsL.lend (by assumption) | exact IsL.lend0 (by assumption) | refine mapL_cons ?_ ?_ | refine mapL_app ?_ ?_ | refine lend_agg ?_ | refine lend_cloG ?_ | exact lend0_ptr rfl rfl (by simp [isVal_int, isVal_bool, isVal_str, isVal_nils, isVal_loose, *]) | exact lend_ptr rfl rfl (by simp [isVal_int, isVal_bool, isVal_str, isVal_nils, isVal_loose, *]) | rfl) (hcont) rfl (nv_t11 rfl ?_)
        refine w_opN (env' := _) (wanted_t 17 (by kernel_rfl) rfl) rfl rfl (fun _ h => h) (nv_t11 rfl ?_)
        refine w_opN (env' := _) rfl rfl rfl (fun _ h => h) (nv_t11 rfl ?_)
        refine w_opN (env' := _) rfl rfl rfl (fun _ h => h) (nv_t11 rfl ?_)
        refine w_end rfl ?_
        refine vc_ret ?_
        refine r_fn rfl ?_
        -- return 0
        show some (AV.bool _) = some (AV.bool _)
        congr 2
        simp [validB]
        first | (simp_all; done) | (simp_all; omega) | (simp_all; intros; exfalso; omega)
      · skip
        refine w_norm (env' := (_ :: _ :: _ :: _ :: _ :: _ :: _ :: _ :: _ :: _ :: _ :: _ :: _ :: _ :: _ :: _ :: _ :: _ :: _ :: _ :: _ :: _ :: _ :: _ :: [])) (H' := [.arr 24 2 [[_, _]]]) rfl rfl ?_
        refine w_skipN (env' := _) (wanted_f 17 (by kernel_rfl) rfl) rfl (nv_t11 rfl ?_)
        refine w_skipN (env' := _) (wanted_f 17 (by kernel_rfl) rfl) rfl (nv_t11 rfl ?_)
        refine w_skipN (env' := _) (wanted_f 17 (by kernel_rfl) rfl) rfl (nv_t11 rfl ?_)
        refine w_skipN (env' := _) (wanted_f 17 (by kernel_rfl) rfl) rfl (nv_t11 rfl ?_)
        refine w_skipN (env' := _) (wanted_f 17 (by kernel_rfl) rfl) rfl (nv_t11 rfl ?_)
        refine w_opN (env' := _) rfl rfl rfl (fun _ h => h) (nv_t11 rfl ?_)
        refine w_opN (env' := _) rfl rfl rfl (fun _ h => h) (nv_t11 rfl ?_)
        refine w_end rfl ?_
        refine vc_ret ?_
        refine r_fn rfl ?_
        -- return 1
        show some (AV.bool _) = some (AV.bool _)
        congr 2
        simp [validB]
        first | (simp_all; done) | (simp_all; omega) | (simp_all; intros; exfalso; omega)
    · skip
      refine w_norm (env' := (_ :: _ :: _ :: _ :: _ :: _ :: _ :: _ :: _ :: _ :: _ :: _ :: _ :: _ :: _ :: _ :: _ :: _ :: _ :: _ :: _ :: _ :: _ :: _ :: [])) (H' := [.arr 24 2 [[_, _]]]) rfl rfl ?_
      refine w_skipN (env' := _) (wanted_f 11 (by kernel_rfl) rfl) rfl (nv_t11 rfl ?_)
      refine w_skipN (env' := _) (wanted_f 11 (by kernel_rfl) rfl) rfl (nv_t11 rfl ?_)
      refine w_skipN (env' := _) (wanted_f 11 (by kernel_rfl) rfl) rfl (nv_t11 rfl ?_)
      refine w_skipN (env' := _) (wanted_f 11 (by kernel_rfl) rfl) rfl (nv_t11 rfl ?_)
      refine w_opN (env' := _) rfl rfl rfl (fun _ h => h) (nv_t11 rfl ?_)
      refine w_opN (env' := _) rfl rfl rfl (fun _ h => h) (nv_t11 rfl ?_)
      refine w_skipN (env' := _) (wanted_f 17 (by kernel_rfl) rfl) rfl (nv_t11 rfl ?_)
      refine w_skipN (env' := _) (wanted_f 17 (by kernel_rfl) rfl) rfl (nv_t11 rfl ?_)
      refine w_skipN (env' := _) (wanted_f 17 (by kernel_rfl) rfl) rfl (nv_t11 rfl ?_)
      refine w_skipN (env' := _) (wanted_f 17 (by kernel_rfl) rfl) rfl (nv_t11 rfl ?_)
      refine w_skipN (env' := _) (wanted_f 17 (by kernel_rfl) rfl) rfl (nv_t11 rfl ?_)
      refine w_opN (env' := _) rfl rfl rfl (fun _ h => h) (nv_t11 rfl ?_)
      refine w_opN (env' := _) rfl rfl rfl (fun _ h => h) (nv_t11 rfl ?_)
      refine w_end rfl ?_
      refine vc_ret ?_
      refine r_fn rfl ?_
      -- return 2
      show some (AV.bool _) = some (AV.bool _)
      congr 2
      simp [validB]
      first | (simp_all; done) | (simp_all; omega) | (simp_all; intros; exfalso; omega)
  · skip
    refine w_norm (env' := (_ :: _ :: _ :: _ :: _ :: _ :: _ :: _ :: _ :: _ :: _ :: _ :: _ :: _ :: _ :: _ :: _ :: _ :: _ :: _ :: _ :: _ :: _ :: _ :: [])) (H' := [.arr 24 2 [[_, _]]]) rfl rfl ?_
    refine w_skipN (env' := _) (wanted_f 6 (by kernel_rfl) rfl) rfl (nv_t11 rfl ?_)
    refine w_skipN (env' := _) (wanted_f 6 (by kernel_rfl) rfl) rfl (nv_t11 rfl ?_)
    refine w_skipN (env' := _) (wanted_f 6 (by kernel_rfl) rfl) rfl (nv_t11 rfl ?_)
    refine w_opN (env' := _) rfl rfl rfl (fun _ h => h) (nv_t11 rfl ?_)
    refine w_opN (env' := _) rfl rfl rfl (fun _ h => h) (nv_t11 rfl ?_)
    refine w_skipN (env' := _) (wanted_f 11 (by kernel_rfl) rfl) rfl (nv_t11 rfl ?_)
    refine w_skipN (env' := _) (wanted_f 11 (by kernel_rfl) rfl) rfl (nv_t11 rfl ?_)
    refine w_skipN (env' := _) (wanted_f 11 (by kernel_rfl) rfl) rfl (nv_t11 rfl ?_)
    refine w_skipN (env' := _) (wanted_f 11 (by kernel_rfl) rfl) rfl (nv_t11 rfl ?_)
    refine w_opN (env' := _) rfl rfl rfl (fun _ h => h) (nv_t11 rfl ?_)
    refine w_opN (env' := _) rfl rfl rfl (fun _ h => h) (nv_t11 rfl ?_)
    refine w_skipN (env' := _) (wanted_f 17 (by kernel_rfl) rfl) rfl (nv_t11 rfl ?_)
    refine w_skipN (env' := _) (wanted_f 17 (by kernel_rfl) rfl) rfl (nv_t11 rfl ?_)
    refine w_skipN (env' := _) (wanted_f 17 (by kernel_rfl) rfl) rfl (nv_t11 rfl ?_)
    refine w_skipN (env' := _) (wanted_f 17 (by kernel_rfl) rfl) rfl (nv_t11 rfl ?_)
    refine w_skipN (env' := _) (wanted_f 17 (by kernel_rfl) rfl) rfl (nv_t11 rfl ?_)
    refine w_opN (env' := _) rfl rfl rfl (fun _ h => h) (nv_t11 rfl ?_)
    refine w_opN (env' := _) rfl rfl rfl (fun _ h => h) (nv_t11 rfl ?_)
    refine w_end rfl ?_
    refine vc_ret ?_
    refine r_fn rfl ?_
    -- return 3
    show some (AV.bool _) = some (AV.bool _)
    congr 2
    simp [validB]
    first | (simp_all; done) | (simp_all; omega) | (simp_all; intros; exfalso; omega)
end Go.Vi
