/- What the reference validity and the comparisons compute: walks. -/
import Derived.Test.YtenfndlbldffgaaDoorCwA
set_option autoImplicit false
set_option linter.unusedVariables false
set_option linter.unusedSimpArgs false
set_option maxRecDepth 100000
namespace Go.Vi
open Go Go.Vi Go.Proofs
attribute [local irreducible] vops vopsD vc

theorem el25 : elemAt Tryd.prog 25 = some (none, 31, 3) := by kernel_rfl
theorem el29 : elemAt Tryd.prog 29 = some (none, 5, 1) := by kernel_rfl
def longB (r : List AV) : Bool := match r with
  | b :: _ => decide ((lrows b).length > 200)
  | _ => false
def wideB (rows : List (List AV)) : Bool := rows.any longB || decide (rows.length > 130)
/-- Bytes. -/
def Byt (b : AV) : Prop := IsL b ∧ (lrows b).length < 9223372036854775808 ∧ ∀ q ∈ lrows b, ∃ v, q = [.int .u8 v]
/-- A page of a copy. -/
def PageOk (r : List AV) : Prop := ∃ b st, r = [b, .int .i64 st] ∧ Byt b
theorem any_no {p : List AV → Bool} {rows : List (List AV)} {i : Nat} (hn : ∀ j r, j < i → rows[j]? = some r → p r = false) (hi : rows.length ≤ i) : rows.any p = false := by
  rw [List.any_eq_false]
  intro x hx
  obtain ⟨j, hj⟩ := List.mem_iff_getElem?.1 hx
  have := (List.getElem?_eq_some_iff.1 hj).1
  simp [hn j x (by omega) hj]
theorem any_yes {p : List AV → Bool} {rows : List (List AV)} {i : Nat} {r : List AV} (hr : rows[i]? = some r) (hp : p r = true) : rows.any p = true := by
  rw [List.any_eq_true]; exact ⟨r, List.mem_of_getElem? hr, hp⟩

theorem nv_t5 {P : Program} {G : Glob} {md : Oper → Md} {ops : Array Oper} {r : List Oper} {env : List AV} {x0 x1 x2 x3 x4 x5 x6 x7 x8 x9 x10 x11 x12 x13 x14 x15 x16 x17 x18 x19 x20 x21 x22 : AV} {H : Hp} {K : List AV → Hp → Prop} (he : env = (x0 :: x1 :: x2 :: x3 :: x4 :: x5 :: x6 :: x7 :: x8 :: x9 :: x10 :: x11 :: x12 :: x13 :: x14 :: x15 :: x16 :: x17 :: x18 :: x19 :: x20 :: x21 :: x22 :: [])) (h : vops P G md ops r (x0 :: x1 :: x2 :: x3 :: x4 :: x5 :: x6 :: x7 :: x8 :: x9 :: x10 :: x11 :: x12 :: x13 :: x14 :: x15 :: x16 :: x17 :: x18 :: x19 :: x20 :: x21 :: x22 :: []) H K) : vops P G md ops r env H K := by rw [he]; exact h
theorem nd_t5 {P : Program} {G : Glob} {md : Oper → Md} {ops : Array Oper} {r : List Oper} {env : List AV} {x0 x1 x2 x3 x4 x5 x6 x7 x8 x9 x10 x11 x12 x13 x14 x15 x16 x17 x18 x19 x20 x21 x22 : AV} {H : Hp} {K : List AV → Hp → Prop} (he : env = (x0 :: x1 :: x2 :: x3 :: x4 :: x5 :: x6 :: x7 :: x8 :: x9 :: x10 :: x11 :: x12 :: x13 :: x14 :: x15 :: x16 :: x17 :: x18 :: x19 :: x20 :: x21 :: x22 :: [])) (h : vopsD P G md ops r (x0 :: x1 :: x2 :: x3 :: x4 :: x5 :: x6 :: x7 :: x8 :: x9 :: x10 :: x11 :: x12 :: x13 :: x14 :: x15 :: x16 :: x17 :: x18 :: x19 :: x20 :: x21 :: x22 :: []) H K) : vopsD P G md ops r env H K := by rw [he]; exact h
theorem t5 (G : Glob) (last : Int) (pages : AV) (hL : IsL pages) (hlen : (lrows pages).length < 9223372036854775808) (hp : ∀ r ∈ lrows pages, PageOk r) : Vi.Fn Tryd.prog G 5 [.agg [.int .i64 last, pages]] (.bool (wideB (lrows pages))) := by
  refine fn_body (fun _ => .iso) Tryd.func5 rfl ?_
  refine vc_norm (env' := [_, _, _, _, _, _, _, _, _, _, _, _, _, _, _, _, _, _, _, _, _, _, _]) (H' := []) rfl rfl ?_
  refine vc_seq ?_
  refine w_region ?_
  refine w_opH (v := .ptr 0 0 0) (env' := _) (H2 := [.arr 24 2 [[_, _]]]) rfl rfl rfl rfl (fun _ h => h) (nv_t5 rfl ?_)
  refine w_opN (env' := _) rfl rfl rfl (fun _ h => h) (nv_t5 rfl ?_)
  refine w_end rfl ?_
  refine vc_seq ?_
  refine vc_seq ?_
  refine w_region ?_
  refine w_opN (env' := _) rfl rfl rfl (fun _ h => h) (nv_t5 rfl ?_)
  refine w_end rfl ?_
  refine vc_block ?_
  refine vc_loopU (α := { i : Nat // (∀ j r, j < i → (lrows pages)[j]? = some r → longB r = false) ∧ i ≤ (lrows pages).length }) (fun i => [none, none, some .undef, some (.int .i64 (i.1 : Nat)), some .undef, some .undef, some .undef, some .undef, some .undef, some .undef, some .undef, some .undef, some .undef, some .undef, some .undef, some .undef, some .undef, some .undef, some .undef, none, none, none, none]) (fun i => (lrows pages).length - i.1) ⟨0, fun j r h => by omega, by omega⟩ ⟨.inl rfl, .inl rfl, .inr rfl, .inl rfl, .inr rfl, .inr rfl, .inr rfl, .inr rfl, .inr rfl, .inr rfl, .inr rfl, .inr rfl, .inr rfl, .inr rfl, .inr rfl, .inr rfl, .inr rfl, .inr rfl, .inr rfl, .inl rfl, .inl rfl, .inl rfl, .inl rfl, trivial⟩ (fun _ => ⟨Nat.zero_le _, ⟨(by first | exact trivial | exact IsL.belowV (by assumption) | ((repeat' (first | exact trivial | exact IsL.below (by assumption) | refine ⟨?_, ?_⟩)); done) | (simp [valB, leafB, cellsB, IsL.below, *]; done) | (simp [valB, leafB, cellsB, IsL.below, *]; omega)), (by first | exact trivial | exact IsL.belowV (by assumption) | ((repeat' (first | exact trivial | exact IsL.below (by assumption) | refine ⟨?_, ?_⟩)); done) | (simp [valB, leafB, cellsB, IsL.below, *]; done) | (simp [valB, leafB, cellsB, IsL.below, *]; omega)), trivial, (by first | exact trivial | exact IsL.belowV (by assumption) | ((repeat' (first | exact trivial | exact IsL.below (by assumption) | refine ⟨?_, ?_⟩)); done) | (simp [valB, leafB, cellsB, IsL.below, *]; done) | (simp [valB, leafB, cellsB, IsL.below, *]; omega)), trivial, trivial, trivial, trivial, trivial, trivial, trivial, trivial, trivial, trivial, trivial, trivial, trivial, trivial, trivial, trivial, trivial, trivial, trivial, trivial⟩, (by repeat' first | exact trivial | exact IsL.below (by assumption) | refine ⟨?_, ?_⟩ | (simp [leafB]; done))⟩) ?_
  rintro ⟨i, hn, hi⟩ Y0 hY0
  refine vc_norm (env' := [_, _, _, _, _, _, _, _, _, _, _, _, _, _, _, _, _, _, _, _, _, _, _]) (H' := [.arr 24 2 [[_, _]]]) rfl rfl ?_
  refine vc_seq ?_
  refine vc_seq ?_
  refine w_region ?_
  refine w_opN (env' := _) rfl rfl rfl (fun _ h => h) (nv_t5 rfl ?_)
  refine w_opN (v := .ptr 0 0 1) (env' := _) rfl rfl rfl (fun _ h => h) (nv_t5 rfl ?_)
  refine w_opN (env' := _) rfl rfl rfl (fun _ h => h) (nv_t5 rfl ?_)
  first | refine w_opN (env' := _) rfl rfl rfl (fun _ h => h) (nv_t5 rfl ?_) | refine x_len (env' := _) rfl rfl (by assumption) Tryd.underlying22 rfl (nv_t5 rfl ?_)
  refine w_opN (env' := _) rfl rfl rfl (fun _ h => h) (nv_t5 rfl ?_)
  refine w_end rfl ?_
  refine vc_cond rfl (fun hc8 => ?_) (fun hc8 => ?_)
  · skip
    have hlt : i < (lrows pages).length := by simpa using hc8
    have hri : (lrows pages)[i]? = some (lrows pages)[i] := List.getElem?_eq_getElem hlt
    obtain ⟨b, st, hx, hLb, hb1, hb2⟩ := hp _ (List.getElem_mem hlt)
    rw [hx] at hri
    refine vc_skip ?_
    refine n_then ?_
    refine vc_seq ?_
    refine vc_block ?_
    refine vc_seq ?_
    refine w_region ?_
    refine w_opN (v := .ptr 0 0 1) (env' := _) rfl rfl rfl (fun _ h => h) (nv_t5 rfl ?_)
    refine w_opN (env' := _) rfl rfl rfl (fun _ h => h) (nv_t5 rfl ?_)
    refine w_opN (env' := _) rfl rfl rfl (fun _ h => h) (nv_t5 rfl ?_)
    first | refine w_opN (v := .iptr _ [_, _]) (env' := _) rfl rfl rfl (fun _ h => h) (nv_t5 rfl ?_) | (refine x_index rfl rfl (by assumption) rfl el22 (by omega) (by assumption) rfl (fun bo => ?_); refine nv_t5 rfl ?_)
    refine w_opN (v := .iptr _ [_, _]) (env' := _) rfl rfl rfl (fun _ h => h) (nv_t5 rfl ?_)
    refine w_opN (env' := _) rfl rfl rfl (fun _ h => h) (nv_t5 rfl ?_)
    first | refine w_opN (env' := _) rfl rfl rfl (fun _ h => h) (nv_t5 rfl ?_) | refine x_len (env' := _) rfl rfl (by assumption) Tryd.underlying29 rfl (nv_t5 rfl ?_)
    refine w_opN (env' := _) rfl rfl rfl (fun _ h => h) (nv_t5 rfl ?_)
    refine w_end rfl ?_
    refine vc_cond rfl (fun hc18 => ?_) (fun hc18 => ?_)
    · skip
      refine vc_seq ?_
      refine w_region ?_
      refine w_opN (env' := _) rfl rfl rfl (fun _ h => h) (nv_t5 rfl ?_)
      refine w_end rfl ?_
      refine vc_ret ?_
      refine r_block ?_
      refine r_then ?_
      refine r_then ?_
      refine r_block ?_
      refine r_then ?_
      refine r_fn rfl ?_
      -- return 0
      show some (AV.bool true) = _
      have : longB [b, .int .i64 st] = true := by simp only [longB]; simp at hc18; simp; omega
      rw [wideB, any_yes hri this]
      rfl
    · skip
      refine vc_skip ?_
      refine n_block ?_
      refine n_then ?_
      refine w_region ?_
      refine w_opN (env' := _) rfl rfl rfl (fun _ h => h) (nv_t5 rfl ?_)
      refine w_opN (env' := _) rfl rfl rfl (fun _ h => h) (nv_t5 rfl ?_)
      refine w_opN (env' := _) rfl rfl rfl (fun _ h => h) (nv_t5 rfl ?_)
      refine w_end rfl ?_
      refine hY0 ⟨i + 1, upto_succ hn hri (by simp only [longB]; simp at hc18; simp; omega), hlt⟩ (by simp only; omega) _ _ _ ⟨.inl rfl, .inl rfl, .inr rfl, .inl ?_, .inr rfl, .inr rfl, .inr rfl, .inr rfl, .inr rfl, .inr rfl, .inr rfl, .inr rfl, .inr rfl, .inr rfl, .inr rfl, .inr rfl, .inr rfl, .inr rfl, .inr rfl, .inl rfl, .inl rfl, .inl rfl, .inl rfl, trivial⟩ rfl
      exact (int_succ (by omega)).symm
  · skip
    have hge : ¬ i < (lrows pages).length := by simpa using hc8
    refine vc_exit ?_
    refine x_then ?_
    refine x_then ?_
    refine x_same ?_
    refine n_then ?_
    refine vc_seq ?_
    refine w_region ?_
    refine w_opN (v := .ptr 0 0 1) (env' := _) rfl rfl rfl (fun _ h => h) (nv_t5 rfl ?_)
    refine w_opN (env' := _) rfl rfl rfl (fun _ h => h) (nv_t5 rfl ?_)
    first | refine w_opN (env' := _) rfl rfl rfl (fun _ h => h) (nv_t5 rfl ?_) | refine x_len (env' := _) rfl rfl (by assumption) Tryd.underlying22 rfl (nv_t5 rfl ?_)
    refine w_opN (env' := _) rfl rfl rfl (fun _ h => h) (nv_t5 rfl ?_)
    refine w_opN (env' := _) rfl rfl rfl (fun _ h => h) (nv_t5 rfl ?_)
    refine w_end rfl ?_
    refine vc_ret ?_
    refine r_fn rfl ?_
    -- return 1
    show some (AV.bool _) = _
    rw [wideB, any_no hn (by omega)]
    congr 2
    simp
    omega
theorem nv_t16 {P : Program} {G : Glob} {md : Oper → Md} {ops : Array Oper} {r : List Oper} {env : List AV} {x0 x1 x2 x3 x4 x5 x6 x7 x8 x9 x10 x11 x12 x13 x14 x15 x16 x17 x18 x19 x20 x21 x22 x23 x24 x25 x26 x27 x28 x29 x30 x31 x32 x33 x34 x35 x36 x37 x38 x39 x40 x41 x42 x43 x44 x45 x46 x47 x48 x49 x50 x51 x52 : AV} {H : Hp} {K : List AV → Hp → Prop} (he : env = (x0 :: x1 :: x2 :: x3 :: x4 :: x5 :: x6 :: x7 :: x8 :: x9 :: x10 :: x11 :: x12 :: x13 :: x14 :: x15 :: x16 :: x17 :: x18 :: x19 :: x20 :: x21 :: x22 :: x23 :: x24 :: x25 :: x26 :: x27 :: x28 :: x29 :: x30 :: x31 :: x32 :: x33 :: x34 :: x35 :: x36 :: x37 :: x38 :: x39 :: x40 :: x41 :: x42 :: x43 :: x44 :: x45 :: x46 :: x47 :: x48 :: x49 :: x50 :: x51 :: x52 :: [])) (h : vops P G md ops r (x0 :: x1 :: x2 :: x3 :: x4 :: x5 :: x6 :: x7 :: x8 :: x9 :: x10 :: x11 :: x12 :: x13 :: x14 :: x15 :: x16 :: x17 :: x18 :: x19 :: x20 :: x21 :: x22 :: x23 :: x24 :: x25 :: x26 :: x27 :: x28 :: x29 :: x30 :: x31 :: x32 :: x33 :: x34 :: x35 :: x36 :: x37 :: x38 :: x39 :: x40 :: x41 :: x42 :: x43 :: x44 :: x45 :: x46 :: x47 :: x48 :: x49 :: x50 :: x51 :: x52 :: []) H K) : vops P G md ops r env H K := by rw [he]; exact h
theorem nd_t16 {P : Program} {G : Glob} {md : Oper → Md} {ops : Array Oper} {r : List Oper} {env : List AV} {x0 x1 x2 x3 x4 x5 x6 x7 x8 x9 x10 x11 x12 x13 x14 x15 x16 x17 x18 x19 x20 x21 x22 x23 x24 x25 x26 x27 x28 x29 x30 x31 x32 x33 x34 x35 x36 x37 x38 x39 x40 x41 x42 x43 x44 x45 x46 x47 x48 x49 x50 x51 x52 : AV} {H : Hp} {K : List AV → Hp → Prop} (he : env = (x0 :: x1 :: x2 :: x3 :: x4 :: x5 :: x6 :: x7 :: x8 :: x9 :: x10 :: x11 :: x12 :: x13 :: x14 :: x15 :: x16 :: x17 :: x18 :: x19 :: x20 :: x21 :: x22 :: x23 :: x24 :: x25 :: x26 :: x27 :: x28 :: x29 :: x30 :: x31 :: x32 :: x33 :: x34 :: x35 :: x36 :: x37 :: x38 :: x39 :: x40 :: x41 :: x42 :: x43 :: x44 :: x45 :: x46 :: x47 :: x48 :: x49 :: x50 :: x51 :: x52 :: [])) (h : vopsD P G md ops r (x0 :: x1 :: x2 :: x3 :: x4 :: x5 :: x6 :: x7 :: x8 :: x9 :: x10 :: x11 :: x12 :: x13 :: x14 :: x15 :: x16 :: x17 :: x18 :: x19 :: x20 :: x21 :: x22 :: x23 :: x24 :: x25 :: x26 :: x27 :: x28 :: x29 :: x30 :: x31 :: x32 :: x33 :: x34 :: x35 :: x36 :: x37 :: x38 :: x39 :: x40 :: x41 :: x42 :: x43 :: x44 :: x45 :: x46 :: x47 :: x48 :: x49 :: x50 :: x51 :: x52 :: []) H K) : vopsD P G md ops r env H K := by rw [he]; exact h
theorem t16 (G : Glob) (last : Int) (pages : AV) (hL : IsL pages) (hlen : (lrows pages).length < 9223372036854775808) (hp : ∀ r ∈ lrows pages, PageOk r) : Vi.Fn Tryd.prog G 16 [.agg [.int .i64 last, pages]] (.bool (validB last (lrows pages))) := by
  refine fn_body (fun _ => .iso) Tryd.func16 rfl ?_
  refine vc_norm (env' := (_ :: _ :: _ :: _ :: _ :: _ :: _ :: _ :: _ :: _ :: _ :: _ :: _ :: _ :: _ :: _ :: _ :: _ :: _ :: _ :: _ :: _ :: _ :: _ :: _ :: _ :: _ :: _ :: _ :: _ :: _ :: _ :: _ :: _ :: _ :: _ :: _ :: _ :: _ :: _ :: _ :: _ :: _ :: _ :: _ :: _ :: _ :: _ :: _ :: _ :: _ :: _ :: _ :: [])) (H' := []) rfl rfl ?_
  refine vc_seq ?_
  refine w_region ?_
  refine w_opH (v := .ptr 0 0 0) (env' := _) (H2 := [.arr 24 2 [[_, _]]]) rfl rfl rfl rfl (fun _ h => h) (nv_t16 rfl ?_)
  refine w_opN (env' := _) rfl rfl rfl (fun _ h => h) (nv_t16 rfl ?_)
  refine w_end rfl ?_
  refine vc_seq ?_
  refine vc_seq ?_
  refine w_region ?_
  refine w_opN (v := .ptr 0 0 1) (env' := _) rfl rfl rfl (fun _ h => h) (nv_t16 rfl ?_)
  refine w_opN (env' := _) rfl rfl rfl (fun _ h => h) (nv_t16 rfl ?_)
  first | refine w_opN (env' := _) rfl rfl rfl (fun _ h => h) (nv_t16 rfl ?_) | refine x_len (env' := _) rfl rfl (by assumption) Tryd.underlying22 rfl (nv_t16 rfl ?_)
  refine w_opN (env' := _) rfl rfl rfl (fun _ h => h) (nv_t16 rfl ?_)
  refine w_opN (env' := _) rfl rfl rfl (fun _ h => h) (nv_t16 rfl ?_)
  refine w_split 8 rfl (fun hg8 => ?_) (fun hg8 => ?_)
  · skip
    refine w_norm (env' := (_ :: _ :: _ :: _ :: _ :: _ :: _ :: _ :: _ :: _ :: _ :: _ :: _ :: _ :: _ :: _ :: _ :: _ :: _ :: _ :: _ :: _ :: _ :: _ :: _ :: _ :: _ :: _ :: _ :: _ :: _ :: _ :: _ :: _ :: _ :: _ :: _ :: _ :: _ :: _ :: _ :: _ :: _ :: _ :: _ :: _ :: _ :: _ :: _ :: _ :: _ :: _ :: _ :: [])) (H' := [.arr 24 2 [[_, _]]]) rfl rfl ?_
    refine w_skipN (env' := _) (wanted_f 8 (by kernel_rfl) rfl) rfl (nv_t16 rfl ?_)
    refine w_skipN (env' := _) (wanted_f 8 (by kernel_rfl) rfl) rfl (nv_t16 rfl ?_)
    refine w_skipN (env' := _) (wanted_f 8 (by kernel_rfl) rfl) rfl (nv_t16 rfl ?_)
    refine w_opN (env' := _) rfl rfl rfl (fun _ h => h) (nv_t16 rfl ?_)
    refine w_opN (env' := _) rfl rfl rfl (fun _ h => h) (nv_t16 rfl ?_)
    refine w_skipN (env' := _) (wanted_f 13 (by kernel_rfl) rfl) rfl (nv_t16 rfl ?_)
    refine w_skipN (env' := _) (wanted_f 13 (by kernel_rfl) rfl) rfl (nv_t16 rfl ?_)
    refine w_skipN (env' := _) (wanted_f 13 (by kernel_rfl) rfl) rfl (nv_t16 rfl ?_)
    refine w_opN (env' := _) rfl rfl rfl (fun _ h => h) (nv_t16 rfl ?_)
    refine w_end rfl ?_
    refine vc_true rfl ?_
    refine vc_seq ?_
    refine w_region ?_
    refine w_opN (env' := _) rfl rfl rfl (fun _ h => h) (nv_t16 rfl ?_)
    refine w_end rfl ?_
    refine vc_ret ?_
    refine r_then ?_
    refine r_fn rfl ?_
    -- return 0
    show some (AV.bool false) = _
    have hv : validB last (lrows pages) = false := by
      simp [validB]
      first | (simp_all; done) | (simp_all; omega) | (simp_all; intros; exfalso; omega)
    rw [hv]
  · skip
    refine w_norm (env' := (_ :: _ :: _ :: _ :: _ :: _ :: _ :: _ :: _ :: _ :: _ :: _ :: _ :: _ :: _ :: _ :: _ :: _ :: _ :: _ :: _ :: _ :: _ :: _ :: _ :: _ :: _ :: _ :: _ :: _ :: _ :: _ :: _ :: _ :: _ :: _ :: _ :: _ :: _ :: _ :: _ :: _ :: _ :: _ :: _ :: _ :: _ :: _ :: _ :: _ :: _ :: _ :: _ :: [])) (H' := [.arr 24 2 [[_, _]]]) rfl rfl ?_
    refine w_opN (v := .ptr 0 0 0) (env' := _) (wanted_t 8 (by kernel_rfl) rfl) rfl rfl (fun _ h => h) (nv_t16 rfl ?_)
    refine w_opN (env' := _) (wanted_t 8 (by kernel_rfl) rfl) rfl rfl (fun _ h => h) (nv_t16 rfl ?_)
    refine w_opN (env' := _) (wanted_t 8 (by kernel_rfl) rfl) rfl rfl (fun _ h => h) (nv_t16 rfl ?_)
    refine w_opN (env' := _) rfl rfl rfl (fun _ h => h) (nv_t16 rfl ?_)
    refine w_opN (env' := _) rfl rfl rfl (fun _ h => h) (nv_t16 rfl ?_)
    refine w_split 13 rfl (fun hg13 => ?_) (fun hg13 => ?_)
    · skip
      refine w_norm (env' := (_ :: _ :: _ :: _ :: _ :: _ :: _ :: _ :: _ :: _ :: _ :: _ :: _ :: _ :: _ :: _ :: _ :: _ :: _ :: _ :: _ :: _ :: _ :: _ :: _ :: _ :: _ :: _ :: _ :: _ :: _ :: _ :: _ :: _ :: _ :: _ :: _ :: _ :: _ :: _ :: _ :: _ :: _ :: _ :: _ :: _ :: _ :: _ :: _ :: _ :: _ :: _ :: _ :: [])) (H' := [.arr 24 2 [[_, _]]]) rfl rfl ?_
      refine w_skipN (env' := _) (wanted_f 13 (by kernel_rfl) rfl) rfl (nv_t16 rfl ?_)
      refine w_skipN (env' := _) (wanted_f 13 (by kernel_rfl) rfl) rfl (nv_t16 rfl ?_)
      refine w_skipN (env' := _) (wanted_f 13 (by kernel_rfl) rfl) rfl (nv_t16 rfl ?_)
      refine w_opN (env' := _) rfl rfl rfl (fun _ h => h) (nv_t16 rfl ?_)
      refine w_end rfl ?_
      refine vc_true rfl ?_
      refine vc_seq ?_
      refine w_region ?_
      refine w_opN (env' := _) rfl rfl rfl (fun _ h => h) (nv_t16 rfl ?_)
      refine w_end rfl ?_
      refine vc_ret ?_
      refine r_then ?_
      refine r_fn rfl ?_
      -- return 1
      show some (AV.bool false) = _
      have hv : validB last (lrows pages) = false := by
        simp [validB]
        first | (simp_all; done) | (simp_all; omega) | (simp_all; intros; exfalso; omega)
      rw [hv]
    · skip
      refine w_norm (env' := (_ :: _ :: _ :: _ :: _ :: _ :: _ :: _ :: _ :: _ :: _ :: _ :: _ :: _ :: _ :: _ :: _ :: _ :: _ :: _ :: _ :: _ :: _ :: _ :: _ :: _ :: _ :: _ :: _ :: _ :: _ :: _ :: _ :: _ :: _ :: _ :: _ :: _ :: _ :: _ :: _ :: _ :: _ :: _ :: _ :: _ :: _ :: _ :: _ :: _ :: _ :: _ :: _ :: [])) (H' := [.arr 24 2 [[_, _]]]) rfl rfl ?_
      refine w_opN (v := .ptr 0 0 0) (env' := _) (wanted_t 13 (by kernel_rfl) rfl) rfl rfl (fun _ h => h) (nv_t16 rfl ?_)
      refine w_opN (env' := _) (wanted_t 13 (by kernel_rfl) rfl) rfl rfl (fun _ h => h) (nv_t16 rfl ?_)
      refine w_opN (env' := _) (wanted_t 13 (by kernel_rfl) rfl) rfl rfl (fun _ h => h) (nv_t16 rfl ?_)
      refine w_opN (env' := _) rfl rfl rfl (fun _ h => h) (nv_t16 rfl ?_)
      refine w_end rfl ?_
      refine vc_cond rfl (fun hc17 => ?_) (fun hc17 => ?_)
      · skip
        refine vc_seq ?_
        refine w_region ?_
        refine w_opN (env' := _) rfl rfl rfl (fun _ h => h) (nv_t16 rfl ?_)
        refine w_end rfl ?_
        refine vc_ret ?_
        refine r_then ?_
        refine r_fn rfl ?_
        -- return 2
        show some (AV.bool false) = _
        have hv : validB last (lrows pages) = false := by
          simp [validB]
          first | (simp_all; done) | (simp_all; omega) | (simp_all; intros; exfalso; omega)
        rw [hv]
      · skip
        refine vc_skip ?_
        refine n_then ?_
        refine vc_seq ?_
        refine vc_seq ?_
        refine w_region ?_
        refine w_opN (env' := _) rfl rfl rfl (fun _ h => h) (nv_t16 rfl ?_)
        refine w_end rfl ?_
        refine vc_block ?_
        refine vc_loopU (α := { i : Nat // (∀ j r, j < i → (lrows pages)[j]? = some r → badS last r = false) ∧ i ≤ (lrows pages).length }) (fun i => (none :: none :: (some .undef) :: (some (.int .i64 (i.1 : Nat))) :: none :: none :: none :: none :: none :: none :: none :: none :: none :: none :: none :: none :: none :: none :: (some .undef) :: (some .undef) :: (some .undef) :: (some .undef) :: (some .undef) :: (some .undef) :: (some .undef) :: (some .undef) :: (some .undef) :: (some .undef) :: (some .undef) :: (some .undef) :: (some .undef) :: (some .undef) :: (some .undef) :: (some .undef) :: (some .undef) :: (some .undef) :: (some .undef) :: (some .undef) :: (some .undef) :: (some .undef) :: (some .undef) :: (some .undef) :: (some .undef) :: (some .undef) :: (some .undef) :: (some .undef) :: (some .undef) :: (some .undef) :: (some .undef) :: (some .undef) :: (some .undef) :: (some .undef) :: (some .undef) :: [])) (fun i => (lrows pages).length - i.1) ⟨0, fun j r h => by omega, by omega⟩ ⟨.inl rfl, .inl rfl, .inr rfl, .inl rfl, .inl rfl, .inl rfl, .inl rfl, .inl rfl, .inl rfl, .inl rfl, .inl rfl, .inl rfl, .inl rfl, .inl rfl, .inl rfl, .inl rfl, .inl rfl, .inl rfl, .inr rfl, .inr rfl, .inr rfl, .inr rfl, .inr rfl, .inr rfl, .inr rfl, .inr rfl, .inr rfl, .inr rfl, .inr rfl, .inr rfl, .inr rfl, .inr rfl, .inr rfl, .inr rfl, .inr rfl, .inr rfl, .inr rfl, .inr rfl, .inr rfl, .inr rfl, .inr rfl, .inr rfl, .inr rfl, .inr rfl, .inr rfl, .inr rfl, .inr rfl, .inr rfl, .inr rfl, .inr rfl, .inr rfl, .inr rfl, .inr rfl, trivial⟩ (fun _ => ⟨Nat.zero_le _, ⟨(by first | exact trivial | exact IsL.belowV (by assumption) | ((repeat' (first | exact trivial | exact IsL.below (by assumption) | refine ⟨?_, ?_⟩)); done) | (simp [valB, leafB, cellsB, IsL.below, *]; done) | (simp [valB, leafB, cellsB, IsL.below, *]; omega)), (by first | exact trivial | exact IsL.belowV (by assumption) | ((repeat' (first | exact trivial | exact IsL.below (by assumption) | refine ⟨?_, ?_⟩)); done) | (simp [valB, leafB, cellsB, IsL.below, *]; done) | (simp [valB, leafB, cellsB, IsL.below, *]; omega)), trivial, (by first | exact trivial | exact IsL.belowV (by assumption) | ((repeat' (first | exact trivial | exact IsL.below (by assumption) | refine ⟨?_, ?_⟩)); done) | (simp [valB, leafB, cellsB, IsL.below, *]; done) | (simp [valB, leafB, cellsB, IsL.below, *]; omega)), (by first | exact trivial | exact IsL.belowV (by assumption) | ((repeat' (first | exact trivial | exact IsL.below (by assumption) | refine ⟨?_, ?_⟩)); done) | (simp [valB, leafB, cellsB, IsL.below, *]; done) | (simp [valB, leafB, cellsB, IsL.below, *]; omega)), (by first | exact trivial | exact IsL.belowV (by assumption) | ((repeat' (first | exact trivial | exact IsL.below (by assumption) | refine ⟨?_, ?_⟩)); done) | (simp [valB, leafB, cellsB, IsL.below, *]; done) | (simp [valB, leafB, cellsB, IsL.below, *]; omega)), (by first | exact trivial | exact IsL.belowV (by assumption) | ((repeat' (first | exact trivial | exact IsL.below (by assumption) | refine ⟨?_, ?_⟩)); done) | (simp [valB, leafB, cellsB, IsL.below, *]; done) | (simp [valB, leafB, cellsB, IsL.below, *]; omega)), (by first | exact trivial | exact IsL.belowV (by assumption) | ((repeat' (first | exact trivial | exact IsL.below (by assumption) | refine ⟨?_, ?_⟩)); done) | (simp [valB, leafB, cellsB, IsL.below, *]; done) | (simp [valB, leafB, cellsB, IsL.below, *]; omega)), (by first | exact trivial | exact IsL.belowV (by assumption) | ((repeat' (first | exact trivial | exact IsL.below (by assumption) | refine ⟨?_, ?_⟩)); done) | (simp [valB, leafB, cellsB, IsL.below, *]; done) | (simp [valB, leafB, cellsB, IsL.below, *]; omega)), (by first | exact trivial | exact IsL.belowV (by assumption) | ((repeat' (first | exact trivial | exact IsL.below (by assumption) | refine ⟨?_, ?_⟩)); done) | (simp [valB, leafB, cellsB, IsL.below, *]; done) | (simp [valB, leafB, cellsB, IsL.below, *]; omega)), (by first | exact trivial | exact IsL.belowV (by assumption) | ((repeat' (first | exact trivial | exact IsL.below (by assumption) | refine ⟨?_, ?_⟩)); done) | (simp [valB, leafB, cellsB, IsL.below, *]; done) | (simp [valB, leafB, cellsB, IsL.below, *]; omega)), (by first | exact trivial | exact IsL.belowV (by assumption) | ((repeat' (first | exact trivial | exact IsL.below (by assumption) | refine ⟨?_, ?_⟩)); done) | (simp [valB, leafB, cellsB, IsL.below, *]; done) | (simp [valB, leafB, cellsB, IsL.below, *]; omega)), (by first | exact trivial | exact IsL.belowV (by assumption) | ((repeat' (first | exact trivial | exact IsL.below (by assumption) | refine ⟨?_, ?_⟩)); done) | (simp [valB, leafB, cellsB, IsL.below, *]; done) | (simp [valB, leafB, cellsB, IsL.below, *]; omega)), (by first | exact trivial | exact IsL.belowV (by assumption) | ((repeat' (first | exact trivial | exact IsL.below (by assumption) | refine ⟨?_, ?_⟩)); done) | (simp [valB, leafB, cellsB, IsL.below, *]; done) | (simp [valB, leafB, cellsB, IsL.below, *]; omega)), (by first | exact trivial | exact IsL.belowV (by assumption) | ((repeat' (first | exact trivial | exact IsL.below (by assumption) | refine ⟨?_, ?_⟩)); done) | (simp [valB, leafB, cellsB, IsL.below, *]; done) | (simp [valB, leafB, cellsB, IsL.below, *]; omega)), (by first | exact trivial | exact IsL.belowV (by assumption) | ((repeat' (first | exact trivial | exact IsL.below (by assumption) | refine ⟨?_, ?_⟩)); done) | (simp [valB, leafB, cellsB, IsL.below, *]; done) | (simp [valB, leafB, cellsB, IsL.below, *]; omega)), (by first | exact trivial | exact IsL.belowV (by assumption) | ((repeat' (first | exact trivial | exact IsL.below (by assumption) | refine ⟨?_, ?_⟩)); done) | (simp [valB, leafB, cellsB, IsL.below, *]; done) | (simp [valB, leafB, cellsB, IsL.below, *]; omega)), (by first | exact trivial | exact IsL.belowV (by assumption) | ((repeat' (first | exact trivial | exact IsL.below (by assumption) | refine ⟨?_, ?_⟩)); done) | (simp [valB, leafB, cellsB, IsL.below, *]; done) | (simp [valB, leafB, cellsB, IsL.below, *]; omega)), trivial, trivial, trivial, trivial, trivial, trivial, trivial, trivial, trivial, trivial, trivial, trivial, trivial, trivial, trivial, trivial, trivial, trivial, trivial, trivial, trivial, trivial, trivial, trivial, trivial, trivial, trivial, trivial, trivial, trivial, trivial, trivial, trivial, trivial, trivial, trivial⟩, (by repeat' first | exact trivial | exact IsL.below (by assumption) | refine ⟨?_, ?_⟩ | (simp [leafB]; done))⟩) ?_
        rintro ⟨i, hn, hi⟩ Y0 hY0
        refine vc_norm (env' := (_ :: _ :: _ :: _ :: _ :: _ :: _ :: _ :: _ :: _ :: _ :: _ :: _ :: _ :: _ :: _ :: _ :: _ :: _ :: _ :: _ :: _ :: _ :: _ :: _ :: _ :: _ :: _ :: _ :: _ :: _ :: _ :: _ :: _ :: _ :: _ :: _ :: _ :: _ :: _ :: _ :: _ :: _ :: _ :: _ :: _ :: _ :: _ :: _ :: _ :: _ :: _ :: _ :: [])) (H' := [.arr 24 2 [[_, _]]]) rfl rfl ?_
        refine vc_seq ?_
        refine vc_seq ?_
        refine w_region ?_
        refine w_opN (env' := _) rfl rfl rfl (fun _ h => h) (nv_t16 rfl ?_)
        refine w_opN (v := .ptr 0 0 1) (env' := _) rfl rfl rfl (fun _ h => h) (nv_t16 rfl ?_)
        refine w_opN (env' := _) rfl rfl rfl (fun _ h => h) (nv_t16 rfl ?_)
        first | refine w_opN (env' := _) rfl rfl rfl (fun _ h => h) (nv_t16 rfl ?_) | refine x_len (env' := _) rfl rfl (by assumption) Tryd.underlying22 rfl (nv_t16 rfl ?_)
        refine w_opN (env' := _) rfl rfl rfl (fun _ h => h) (nv_t16 rfl ?_)
        refine w_end rfl ?_
        refine vc_cond rfl (fun hc22 => ?_) (fun hc22 => ?_)
        · skip
          have hlt : i < (lrows pages).length := by simpa using hc22
          have hri : (lrows pages)[i]? = some (lrows pages)[i] := List.getElem?_eq_getElem hlt
          obtain ⟨b, st, hx, hLb, hb1, hb2⟩ := hp _ (List.getElem_mem hlt)
          rw [hx] at hri
          refine vc_skip ?_
          refine n_then ?_
          refine vc_seq ?_
          refine vc_block ?_
          refine vc_seq ?_
          refine w_regionD (by kernel_rfl) ?_
          refine d_opH (v := .ptr 0 0 1) (env' := _) (H2 := [.arr 24 2 [[_, _]]]) rfl rfl (.inr rfl) rfl rfl (fun _ h => h) (nd_t16 rfl ?_)
          refine d_opH (env' := _) (H2 := [.arr 24 2 [[_, _]]]) rfl rfl (.inr rfl) rfl rfl (fun _ h => h) (nd_t16 rfl ?_)
          refine d_opH (env' := _) (H2 := [.arr 24 2 [[_, _]]]) rfl rfl (.inr rfl) rfl rfl (fun _ h => h) (nd_t16 rfl ?_)
          first | refine d_opH (v := .iptr _ [_, _]) (env' := _) (H2 := [.arr 24 2 [[_, _]]]) rfl rfl (.inr rfl) rfl rfl (fun _ h => h) (nd_t16 rfl ?_) | (refine y_index rfl rfl (by assumption) rfl el22 (by omega) (by assumption) rfl (fun bo => ?_); refine nd_t16 rfl ?_)
          refine d_opH (v := .iptr _ [_, _]) (env' := _) (H2 := [.arr 24 2 [[_, _]]]) rfl rfl (.inr rfl) rfl rfl (fun _ h => h) (nd_t16 rfl ?_)
          refine d_opH (env' := _) (H2 := [.arr 24 2 [[_, _]]]) rfl rfl (.inr rfl) rfl rfl (fun _ h => h) (nd_t16 rfl ?_)
          first | refine d_opH (env' := _) (H2 := [.arr 24 2 [[_, _]]]) rfl rfl (.inr rfl) rfl rfl (fun _ h => h) (nd_t16 rfl ?_) | refine y_len (env' := _) rfl rfl (by assumption) Tryd.underlying29 rfl (nd_t16 rfl ?_)
          refine d_opH (env' := _) (H2 := [.arr 24 2 [[_, _]]]) rfl rfl (.inr rfl) rfl rfl (fun _ h => h) (nd_t16 rfl ?_)
          refine d_opH (env' := _) (H2 := [.arr 24 2 [[_, _]]]) rfl rfl (.inr rfl) rfl rfl (fun _ h => h) (nd_t16 rfl ?_)
          refine d_split 33 rfl (fun hg33 => ?_) (fun hg33 => ?_)
          · skip
            refine d_norm (env' := (_ :: _ :: _ :: _ :: _ :: _ :: _ :: _ :: _ :: _ :: _ :: _ :: _ :: _ :: _ :: _ :: _ :: _ :: _ :: _ :: _ :: _ :: _ :: _ :: _ :: _ :: _ :: _ :: _ :: _ :: _ :: _ :: _ :: _ :: _ :: _ :: _ :: _ :: _ :: _ :: _ :: _ :: _ :: _ :: _ :: _ :: _ :: _ :: _ :: _ :: _ :: _ :: _ :: [])) (H' := [.arr 24 2 [[_, _]]]) rfl rfl ?_
            refine d_skipN (env' := _) (wanted_f 33 (by kernel_rfl) rfl) rfl (nd_t16 rfl ?_)
            refine d_skipN (env' := _) (wanted_f 33 (by kernel_rfl) rfl) rfl (nd_t16 rfl ?_)
            refine d_skipN (env' := _) (wanted_f 33 (by kernel_rfl) rfl) rfl (nd_t16 rfl ?_)
            refine d_skipN (env' := _) (wanted_f 33 (by kernel_rfl) rfl) rfl (nd_t16 rfl ?_)
            refine d_skipN (env' := _) (wanted_f 33 (by kernel_rfl) rfl) rfl (nd_t16 rfl ?_)
            refine d_skipN (env' := _) (wanted_f 33 (by kernel_rfl) rfl) rfl (nd_t16 rfl ?_)
            refine d_skipN (env' := _) (wanted_f 33 (by kernel_rfl) rfl) rfl (nd_t16 rfl ?_)
            refine d_opH (env' := _) (H2 := [.arr 24 2 [[_, _]]]) rfl rfl (.inr rfl) rfl rfl (fun _ h => h) (nd_t16 rfl ?_)
            refine d_opH (env' := _) (H2 := [.arr 24 2 [[_, _]]]) rfl rfl (.inr rfl) rfl rfl (fun _ h => h) (nd_t16 rfl ?_)
            refine d_skipN (env' := _) (wanted_f 42 (by kernel_rfl) rfl) rfl (nd_t16 rfl ?_)
            refine d_skipN (env' := _) (wanted_f 42 (by kernel_rfl) rfl) rfl (nd_t16 rfl ?_)
            refine d_skipN (env' := _) (wanted_f 42 (by kernel_rfl) rfl) rfl (nd_t16 rfl ?_)
            refine d_skipN (env' := _) (wanted_f 42 (by kernel_rfl) rfl) rfl (nd_t16 rfl ?_)
            refine d_skipN (env' := _) (wanted_f 42 (by kernel_rfl) rfl) rfl (nd_t16 rfl ?_)
            refine d_skipN (env' := _) (wanted_f 42 (by kernel_rfl) rfl) rfl (nd_t16 rfl ?_)
            refine d_skipN (env' := _) (wanted_f 42 (by kernel_rfl) rfl) rfl (nd_t16 rfl ?_)
            refine d_skipN (env' := _) (wanted_f 42 (by kernel_rfl) rfl) rfl (nd_t16 rfl ?_)
            refine d_skipN (env' := _) (wanted_f 42 (by kernel_rfl) rfl) rfl (nd_t16 rfl ?_)
            refine d_opH (env' := _) (H2 := [.arr 24 2 [[_, _]]]) rfl rfl (.inr rfl) rfl rfl (fun _ h => h) (nd_t16 rfl ?_)
            refine d_end rfl ?_
            refine vc_true rfl ?_
            refine vc_seq ?_
            refine w_region ?_
            refine w_opN (env' := _) rfl rfl rfl (fun _ h => h) (nv_t16 rfl ?_)
            refine w_end rfl ?_
            refine vc_ret ?_
            refine r_block ?_
            refine r_then ?_
            refine r_then ?_
            refine r_block ?_
            refine r_then ?_
            refine r_fn rfl ?_
            -- return 3
            show some (AV.bool false) = _
            have hb : badS last [b, .int .i64 st] = true := by simp only [badS]; simp_all
            have hv : validB last (lrows pages) = false := by simp [validB, any_yes hri hb]
            rw [hv]
          · skip
            refine d_norm (env' := (_ :: _ :: _ :: _ :: _ :: _ :: _ :: _ :: _ :: _ :: _ :: _ :: _ :: _ :: _ :: _ :: _ :: _ :: _ :: _ :: _ :: _ :: _ :: _ :: _ :: _ :: _ :: _ :: _ :: _ :: _ :: _ :: _ :: _ :: _ :: _ :: _ :: _ :: _ :: _ :: _ :: _ :: _ :: _ :: _ :: _ :: _ :: _ :: _ :: _ :: _ :: _ :: _ :: [])) (H' := [.arr 24 2 [[_, _]]]) rfl rfl ?_
            refine d_opH (v := .ptr 0 0 1) (env' := _) (H2 := [.arr 24 2 [[_, _]]]) (wanted_t 33 (by kernel_rfl) rfl) rfl (.inr rfl) rfl rfl (fun _ h => h) (nd_t16 rfl ?_)
            refine d_opH (env' := _) (H2 := [.arr 24 2 [[_, _]]]) (wanted_t 33 (by kernel_rfl) rfl) rfl (.inr rfl) rfl rfl (fun _ h => h) (nd_t16 rfl ?_)
            refine d_opH (env' := _) (H2 := [.arr 24 2 [[_, _]]]) (wanted_t 33 (by kernel_rfl) rfl) rfl (.inr rfl) rfl rfl (fun _ h => h) (nd_t16 rfl ?_)
            first | refine d_opH (v := .iptr _ [_, _]) (env' := _) (H2 := [.arr 24 2 [[_, _]]]) (wanted_t 33 (by kernel_rfl) rfl) rfl (.inr rfl) rfl rfl (fun _ h => h) (nd_t16 rfl ?_) | (refine y_index (wanted_t 33 (by kernel_rfl) rfl) rfl (by assumption) rfl el22 (by omega) (by assumption) rfl (fun bo => ?_); refine nd_t16 rfl ?_)
            refine d_opH (v := .iptr _ [_]) (env' := _) (H2 := [.arr 24 2 [[_, _]]]) (wanted_t 33 (by kernel_rfl) rfl) rfl (.inr rfl) rfl rfl (fun _ h => h) (nd_t16 rfl ?_)
            refine d_opH (env' := _) (H2 := [.arr 24 2 [[_, _]]]) (wanted_t 33 (by kernel_rfl) rfl) rfl (.inr rfl) rfl rfl (fun _ h => h) (nd_t16 rfl ?_)
            refine d_opH (env' := _) (H2 := [.arr 24 2 [[_, _]]]) (wanted_t 33 (by kernel_rfl) rfl) rfl (.inr rfl) rfl rfl (fun _ h => h) (nd_t16 rfl ?_)
            refine d_opH (env' := _) (H2 := [.arr 24 2 [[_, _]]]) rfl rfl (.inr rfl) rfl rfl (fun _ h => h) (nd_t16 rfl ?_)
            refine d_opH (env' := _) (H2 := [.arr 24 2 [[_, _]]]) rfl rfl (.inr rfl) rfl rfl (fun _ h => h) (nd_t16 rfl ?_)
            refine d_split 42 rfl (fun hg42 => ?_) (fun hg42 => ?_)
            · skip
              refine d_norm (env' := (_ :: _ :: _ :: _ :: _ :: _ :: _ :: _ :: _ :: _ :: _ :: _ :: _ :: _ :: _ :: _ :: _ :: _ :: _ :: _ :: _ :: _ :: _ :: _ :: _ :: _ :: _ :: _ :: _ :: _ :: _ :: _ :: _ :: _ :: _ :: _ :: _ :: _ :: _ :: _ :: _ :: _ :: _ :: _ :: _ :: _ :: _ :: _ :: _ :: _ :: _ :: _ :: _ :: [])) (H' := [.arr 24 2 [[_, _]]]) rfl rfl ?_
              refine d_skipN (env' := _) (wanted_f 42 (by kernel_rfl) rfl) rfl (nd_t16 rfl ?_)
              refine d_skipN (env' := _) (wanted_f 42 (by kernel_rfl) rfl) rfl (nd_t16 rfl ?_)
              refine d_skipN (env' := _) (wanted_f 42 (by kernel_rfl) rfl) rfl (nd_t16 rfl ?_)
              refine d_skipN (env' := _) (wanted_f 42 (by kernel_rfl) rfl) rfl (nd_t16 rfl ?_)
              refine d_skipN (env' := _) (wanted_f 42 (by kernel_rfl) rfl) rfl (nd_t16 rfl ?_)
              refine d_skipN (env' := _) (wanted_f 42 (by kernel_rfl) rfl) rfl (nd_t16 rfl ?_)
              refine d_skipN (env' := _) (wanted_f 42 (by kernel_rfl) rfl) rfl (nd_t16 rfl ?_)
              refine d_skipN (env' := _) (wanted_f 42 (by kernel_rfl) rfl) rfl (nd_t16 rfl ?_)
              refine d_skipN (env' := _) (wanted_f 42 (by kernel_rfl) rfl) rfl (nd_t16 rfl ?_)
              refine d_opH (env' := _) (H2 := [.arr 24 2 [[_, _]]]) rfl rfl (.inr rfl) rfl rfl (fun _ h => h) (nd_t16 rfl ?_)
              refine d_end rfl ?_
              refine vc_true rfl ?_
              refine vc_seq ?_
              refine w_region ?_
              refine w_opN (env' := _) rfl rfl rfl (fun _ h => h) (nv_t16 rfl ?_)
              refine w_end rfl ?_
              refine vc_ret ?_
              refine r_block ?_
              refine r_then ?_
              refine r_then ?_
              refine r_block ?_
              refine r_then ?_
              refine r_fn rfl ?_
              -- return 4
              show some (AV.bool false) = _
              have hb : badS last [b, .int .i64 st] = true := by simp only [badS]; simp_all
              have hv : validB last (lrows pages) = false := by simp [validB, any_yes hri hb]
              rw [hv]
            · skip
              refine d_norm (env' := (_ :: _ :: _ :: _ :: _ :: _ :: _ :: _ :: _ :: _ :: _ :: _ :: _ :: _ :: _ :: _ :: _ :: _ :: _ :: _ :: _ :: _ :: _ :: _ :: _ :: _ :: _ :: _ :: _ :: _ :: _ :: _ :: _ :: _ :: _ :: _ :: _ :: _ :: _ :: _ :: _ :: _ :: _ :: _ :: _ :: _ :: _ :: _ :: _ :: _ :: _ :: _ :: _ :: [])) (H' := [.arr 24 2 [[_, _]]]) rfl rfl ?_
              refine d_opH (v := .ptr 0 0 1) (env' := _) (H2 := [.arr 24 2 [[_, _]]]) (wanted_t 42 (by kernel_rfl) rfl) rfl (.inr rfl) rfl rfl (fun _ h => h) (nd_t16 rfl ?_)
              refine d_opH (env' := _) (H2 := [.arr 24 2 [[_, _]]]) (wanted_t 42 (by kernel_rfl) rfl) rfl (.inr rfl) rfl rfl (fun _ h => h) (nd_t16 rfl ?_)
              refine d_opH (env' := _) (H2 := [.arr 24 2 [[_, _]]]) (wanted_t 42 (by kernel_rfl) rfl) rfl (.inr rfl) rfl rfl (fun _ h => h) (nd_t16 rfl ?_)
              first | refine d_opH (v := .iptr _ [_, _]) (env' := _) (H2 := [.arr 24 2 [[_, _]]]) (wanted_t 42 (by kernel_rfl) rfl) rfl (.inr rfl) rfl rfl (fun _ h => h) (nd_t16 rfl ?_) | (refine y_index (wanted_t 42 (by kernel_rfl) rfl) rfl (by assumption) rfl el22 (by omega) (by assumption) rfl (fun bo => ?_); refine nd_t16 rfl ?_)
              refine d_opH (v := .iptr _ [_]) (env' := _) (H2 := [.arr 24 2 [[_, _]]]) (wanted_t 42 (by kernel_rfl) rfl) rfl (.inr rfl) rfl rfl (fun _ h => h) (nd_t16 rfl ?_)
              refine d_opH (env' := _) (H2 := [.arr 24 2 [[_, _]]]) (wanted_t 42 (by kernel_rfl) rfl) rfl (.inr rfl) rfl rfl (fun _ h => h) (nd_t16 rfl ?_)
              refine d_opH (v := .ptr 0 0 0) (env' := _) (H2 := [.arr 24 2 [[_, _]]]) (wanted_t 42 (by kernel_rfl) rfl) rfl (.inr rfl) rfl rfl (fun _ h => h) (nd_t16 rfl ?_)
              refine d_opH (env' := _) (H2 := [.arr 24 2 [[_, _]]]) (wanted_t 42 (by kernel_rfl) rfl) rfl (.inr rfl) rfl rfl (fun _ h => h) (nd_t16 rfl ?_)
              refine d_opH (env' := _) (H2 := [.arr 24 2 [[_, _]]]) (wanted_t 42 (by kernel_rfl) rfl) rfl (.inr rfl) rfl rfl (fun _ h => h) (nd_t16 rfl ?_)
              refine d_opH (env' := _) (H2 := [.arr 24 2 [[_, _]]]) rfl rfl (.inr rfl) rfl rfl (fun _ h => h) (nd_t16 rfl ?_)
              refine d_end rfl ?_
              refine vc_cond rfl (fun hc52 => ?_) (fun hc52 => ?_)
              · skip
                refine vc_seq ?_
                refine w_region ?_
                refine w_opN (env' := _) rfl rfl rfl (fun _ h => h) (nv_t16 rfl ?_)
                refine w_end rfl ?_
                refine vc_ret ?_
                refine r_block ?_
                refine r_then ?_
                refine r_then ?_
                refine r_block ?_
                refine r_then ?_
                refine r_fn rfl ?_
                -- return 5
                show some (AV.bool false) = _
                have hb : badS last [b, .int .i64 st] = true := by simp only [badS]; simp_all
                have hv : validB last (lrows pages) = false := by simp [validB, any_yes hri hb]
                rw [hv]
              · skip
                refine vc_skip ?_
                refine n_block ?_
                refine n_then ?_
                refine w_region ?_
                refine w_opN (env' := _) rfl rfl rfl (fun _ h => h) (nv_t16 rfl ?_)
                refine w_opN (env' := _) rfl rfl rfl (fun _ h => h) (nv_t16 rfl ?_)
                refine w_opN (env' := _) rfl rfl rfl (fun _ h => h) (nv_t16 rfl ?_)
                refine w_end rfl ?_
                refine hY0 ⟨i + 1, upto_succ hn hri (by simp only [badS]; simp_all), hlt⟩ (by simp only; omega) _ _ _ ⟨.inl rfl, .inl rfl, .inr rfl, .inl ?_, .inl rfl, .inl rfl, .inl rfl, .inl rfl, .inl rfl, .inl rfl, .inl rfl, .inl rfl, .inl rfl, .inl rfl, .inl rfl, .inl rfl, .inl rfl, .inl rfl, .inr rfl, .inr rfl, .inr rfl, .inr rfl, .inr rfl, .inr rfl, .inr rfl, .inr rfl, .inr rfl, .inr rfl, .inr rfl, .inr rfl, .inr rfl, .inr rfl, .inr rfl, .inr rfl, .inr rfl, .inr rfl, .inr rfl, .inr rfl, .inr rfl, .inr rfl, .inr rfl, .inr rfl, .inr rfl, .inr rfl, .inr rfl, .inr rfl, .inr rfl, .inr rfl, .inr rfl, .inr rfl, .inr rfl, .inr rfl, .inr rfl, trivial⟩ rfl
                exact (int_succ (by omega)).symm
        · skip
          have hge : ¬ i < (lrows pages).length := by simpa using hc22
          refine vc_exit ?_
          refine x_then ?_
          refine x_then ?_
          refine x_same ?_
          refine n_then ?_
          refine vc_seq ?_
          refine w_region ?_
          refine w_opN (env' := _) rfl rfl rfl (fun _ h => h) (nv_t16 rfl ?_)
          refine w_end rfl ?_
          refine vc_ret ?_
          refine r_fn rfl ?_
          -- return 6
          show some (AV.bool true) = _
          have hv : validB last (lrows pages) = true := by
            have ha := any_no hn (by omega)
            simp only [validB, ha]
            simp_all
          rw [hv]
theorem nv_t18 {P : Program} {G : Glob} {md : Oper → Md} {ops : Array Oper} {r : List Oper} {env : List AV} {x0 x1 x2 x3 x4 x5 x6 x7 x8 x9 x10 x11 x12 x13 x14 x15 x16 x17 x18 x19 x20 x21 x22 x23 x24 x25 x26 x27 x28 x29 x30 x31 x32 x33 x34 x35 x36 x37 x38 x39 x40 x41 x42 x43 x44 x45 x46 x47 : AV} {H : Hp} {K : List AV → Hp → Prop} (he : env = (x0 :: x1 :: x2 :: x3 :: x4 :: x5 :: x6 :: x7 :: x8 :: x9 :: x10 :: x11 :: x12 :: x13 :: x14 :: x15 :: x16 :: x17 :: x18 :: x19 :: x20 :: x21 :: x22 :: x23 :: x24 :: x25 :: x26 :: x27 :: x28 :: x29 :: x30 :: x31 :: x32 :: x33 :: x34 :: x35 :: x36 :: x37 :: x38 :: x39 :: x40 :: x41 :: x42 :: x43 :: x44 :: x45 :: x46 :: x47 :: [])) (h : vops P G md ops r (x0 :: x1 :: x2 :: x3 :: x4 :: x5 :: x6 :: x7 :: x8 :: x9 :: x10 :: x11 :: x12 :: x13 :: x14 :: x15 :: x16 :: x17 :: x18 :: x19 :: x20 :: x21 :: x22 :: x23 :: x24 :: x25 :: x26 :: x27 :: x28 :: x29 :: x30 :: x31 :: x32 :: x33 :: x34 :: x35 :: x36 :: x37 :: x38 :: x39 :: x40 :: x41 :: x42 :: x43 :: x44 :: x45 :: x46 :: x47 :: []) H K) : vops P G md ops r env H K := by rw [he]; exact h
theorem nd_t18 {P : Program} {G : Glob} {md : Oper → Md} {ops : Array Oper} {r : List Oper} {env : List AV} {x0 x1 x2 x3 x4 x5 x6 x7 x8 x9 x10 x11 x12 x13 x14 x15 x16 x17 x18 x19 x20 x21 x22 x23 x24 x25 x26 x27 x28 x29 x30 x31 x32 x33 x34 x35 x36 x37 x38 x39 x40 x41 x42 x43 x44 x45 x46 x47 : AV} {H : Hp} {K : List AV → Hp → Prop} (he : env = (x0 :: x1 :: x2 :: x3 :: x4 :: x5 :: x6 :: x7 :: x8 :: x9 :: x10 :: x11 :: x12 :: x13 :: x14 :: x15 :: x16 :: x17 :: x18 :: x19 :: x20 :: x21 :: x22 :: x23 :: x24 :: x25 :: x26 :: x27 :: x28 :: x29 :: x30 :: x31 :: x32 :: x33 :: x34 :: x35 :: x36 :: x37 :: x38 :: x39 :: x40 :: x41 :: x42 :: x43 :: x44 :: x45 :: x46 :: x47 :: [])) (h : vopsD P G md ops r (x0 :: x1 :: x2 :: x3 :: x4 :: x5 :: x6 :: x7 :: x8 :: x9 :: x10 :: x11 :: x12 :: x13 :: x14 :: x15 :: x16 :: x17 :: x18 :: x19 :: x20 :: x21 :: x22 :: x23 :: x24 :: x25 :: x26 :: x27 :: x28 :: x29 :: x30 :: x31 :: x32 :: x33 :: x34 :: x35 :: x36 :: x37 :: x38 :: x39 :: x40 :: x41 :: x42 :: x43 :: x44 :: x45 :: x46 :: x47 :: []) H K) : vopsD P G md ops r env H K := by rw [he]; exact h
theorem t18 (G : Glob) (b : AV) (hL : IsL b) (hlen : (lrows b).length < 9223372036854775808) (hp : ∀ q ∈ lrows b, ∃ v, q = [.int .u8 v]) : Vi.Fn Tryd.prog G 18 [b, b] (.int .i64 0) := by
  refine fn_body (fun _ => .iso) Tryd.func18 rfl ?_
  refine vc_norm (env' := (_ :: _ :: _ :: _ :: _ :: _ :: _ :: _ :: _ :: _ :: _ :: _ :: _ :: _ :: _ :: _ :: _ :: _ :: _ :: _ :: _ :: _ :: _ :: _ :: _ :: _ :: _ :: _ :: _ :: _ :: _ :: _ :: _ :: _ :: _ :: _ :: _ :: _ :: _ :: _ :: _ :: _ :: _ :: _ :: _ :: _ :: _ :: _ :: [])) (H' := []) rfl rfl ?_
  refine vc_seq ?_
  refine w_region ?_
  refine w_opN (env' := _) rfl rfl rfl (fun _ h => h) (nv_t18 rfl ?_)
  refine w_end rfl ?_
  refine vc_seq ?_
  refine vc_seq ?_
  refine w_region ?_
  refine w_opN (env' := _) rfl rfl rfl (fun _ h => h) (nv_t18 rfl ?_)
  refine w_end rfl ?_
  refine vc_block ?_
  refine vc_loopU (α := { i : Nat // i ≤ (lrows b).length }) (fun i => (none :: none :: none :: none :: (some .undef) :: (some (.int .i64 (i.1 : Nat))) :: (some .undef) :: (some .undef) :: (some .undef) :: (some .undef) :: (some .undef) :: (some .undef) :: (some .undef) :: (some .undef) :: (some .undef) :: (some .undef) :: (some .undef) :: (some .undef) :: (some .undef) :: (some .undef) :: (some .undef) :: (some .undef) :: (some .undef) :: (some .undef) :: (some .undef) :: (some .undef) :: (some .undef) :: (some .undef) :: (some .undef) :: (some .undef) :: (some .undef) :: (some .undef) :: (some .undef) :: (some .undef) :: (some .undef) :: (some .undef) :: none :: none :: none :: none :: none :: none :: none :: none :: none :: none :: none :: none :: [])) (fun i => (lrows b).length - i.1) ⟨0, by omega⟩ ⟨.inl rfl, .inl rfl, .inl rfl, .inl rfl, .inr rfl, .inl rfl, .inr rfl, .inr rfl, .inr rfl, .inr rfl, .inr rfl, .inr rfl, .inr rfl, .inr rfl, .inr rfl, .inr rfl, .inr rfl, .inr rfl, .inr rfl, .inr rfl, .inr rfl, .inr rfl, .inr rfl, .inr rfl, .inr rfl, .inr rfl, .inr rfl, .inr rfl, .inr rfl, .inr rfl, .inr rfl, .inr rfl, .inr rfl, .inr rfl, .inr rfl, .inr rfl, .inl rfl, .inl rfl, .inl rfl, .inl rfl, .inl rfl, .inl rfl, .inl rfl, .inl rfl, .inl rfl, .inl rfl, .inl rfl, .inl rfl, trivial⟩ (fun _ => ⟨Nat.zero_le _, ⟨(by first | exact trivial | exact IsL.belowV (by assumption) | ((repeat' (first | exact trivial | exact IsL.below (by assumption) | refine ⟨?_, ?_⟩)); done) | (simp [valB, leafB, cellsB, IsL.below, *]; done) | (simp [valB, leafB, cellsB, IsL.below, *]; omega)), (by first | exact trivial | exact IsL.belowV (by assumption) | ((repeat' (first | exact trivial | exact IsL.below (by assumption) | refine ⟨?_, ?_⟩)); done) | (simp [valB, leafB, cellsB, IsL.below, *]; done) | (simp [valB, leafB, cellsB, IsL.below, *]; omega)), trivial, trivial, trivial, (by first | exact trivial | exact IsL.belowV (by assumption) | ((repeat' (first | exact trivial | exact IsL.below (by assumption) | refine ⟨?_, ?_⟩)); done) | (simp [valB, leafB, cellsB, IsL.below, *]; done) | (simp [valB, leafB, cellsB, IsL.below, *]; omega)), trivial, trivial, trivial, trivial, trivial, trivial, trivial, trivial, trivial, trivial, trivial, trivial, trivial, trivial, trivial, trivial, trivial, trivial, trivial, trivial, trivial, trivial, trivial, trivial, trivial, trivial, trivial, trivial, trivial, trivial, trivial, trivial, trivial, trivial, trivial, trivial, trivial, trivial, trivial, trivial, trivial, trivial, trivial⟩, (by repeat' first | exact trivial | exact IsL.below (by assumption) | refine ⟨?_, ?_⟩ | (simp [leafB]; done))⟩) ?_
  rintro ⟨i, hi⟩ Y0 hY0
  refine vc_norm (env' := (_ :: _ :: _ :: _ :: _ :: _ :: _ :: _ :: _ :: _ :: _ :: _ :: _ :: _ :: _ :: _ :: _ :: _ :: _ :: _ :: _ :: _ :: _ :: _ :: _ :: _ :: _ :: _ :: _ :: _ :: _ :: _ :: _ :: _ :: _ :: _ :: _ :: _ :: _ :: _ :: _ :: _ :: _ :: _ :: _ :: _ :: _ :: _ :: [])) (H' := []) rfl rfl ?_
  refine vc_seq ?_
  refine vc_seq ?_
  refine w_region ?_
  refine w_opN (env' := _) rfl rfl rfl (fun _ h => h) (nv_t18 rfl ?_)
  refine w_opN (env' := _) rfl rfl rfl (fun _ h => h) (nv_t18 rfl ?_)
  first | refine w_opN (env' := _) rfl rfl rfl (fun _ h => h) (nv_t18 rfl ?_) | refine x_len (env' := _) rfl rfl (by assumption) Tryd.underlying29 rfl (nv_t18 rfl ?_)
  refine w_opN (env' := _) rfl rfl rfl (fun _ h => h) (nv_t18 rfl ?_)
  refine w_opN (env' := _) rfl rfl rfl (fun _ h => h) (nv_t18 rfl ?_)
  refine w_split 10 rfl (fun hg10 => ?_) (fun hg10 => ?_)
  · skip
    have hlt : i < (lrows b).length := by simpa using hg10
    have hri : (lrows b)[i]? = some (lrows b)[i] := List.getElem?_eq_getElem hlt
    obtain ⟨v, hx⟩ := hp _ (List.getElem_mem hlt)
    rw [hx] at hri
    refine w_norm (env' := (_ :: _ :: _ :: _ :: _ :: _ :: _ :: _ :: _ :: _ :: _ :: _ :: _ :: _ :: _ :: _ :: _ :: _ :: _ :: _ :: _ :: _ :: _ :: _ :: _ :: _ :: _ :: _ :: _ :: _ :: _ :: _ :: _ :: _ :: _ :: _ :: _ :: _ :: _ :: _ :: _ :: _ :: _ :: _ :: _ :: _ :: _ :: _ :: [])) (H' := []) rfl rfl ?_
    refine w_opN (env' := _) (wanted_t 10 (by kernel_rfl) rfl) rfl rfl (fun _ h => h) (nv_t18 rfl ?_)
    refine w_opN (env' := _) (wanted_t 10 (by kernel_rfl) rfl) rfl rfl (fun _ h => h) (nv_t18 rfl ?_)
    first | refine w_opN (env' := _) (wanted_t 10 (by kernel_rfl) rfl) rfl rfl (fun _ h => h) (nv_t18 rfl ?_) | refine x_len (env' := _) (wanted_t 10 (by kernel_rfl) rfl) rfl (by assumption) Tryd.underlying29 rfl (nv_t18 rfl ?_)
    refine w_opN (env' := _) (wanted_t 10 (by kernel_rfl) rfl) rfl rfl (fun _ h => h) (nv_t18 rfl ?_)
    refine w_opN (env' := _) rfl rfl rfl (fun _ h => h) (nv_t18 rfl ?_)
    refine w_end rfl ?_
    refine vc_cond rfl (fun hc15 => ?_) (fun hc15 => ?_)
    · skip
      refine vc_skip ?_
      refine n_then ?_
      refine vc_seq ?_
      refine vc_block ?_
      refine vc_seq ?_
      refine w_regionD (by kernel_rfl) ?_
      refine d_opH (env' := _) (H2 := []) rfl rfl (.inr rfl) rfl rfl (fun _ h => h) (nd_t18 rfl ?_)
      refine d_opH (env' := _) (H2 := []) rfl rfl (.inr rfl) rfl rfl (fun _ h => h) (nd_t18 rfl ?_)
      first | refine d_opH (env' := _) (H2 := []) rfl rfl (.inr rfl) rfl rfl (fun _ h => h) (nd_t18 rfl ?_) | (refine y_index rfl rfl (by assumption) rfl el29 (by omega) (by assumption) rfl (fun bo => ?_); refine nd_t18 rfl ?_)
      refine d_opH (env' := _) (H2 := []) rfl rfl (.inr rfl) rfl rfl (fun _ h => h) (nd_t18 rfl ?_)
      refine d_opH (env' := _) (H2 := []) rfl rfl (.inr rfl) rfl rfl (fun _ h => h) (nd_t18 rfl ?_)
      refine d_opH (env' := _) (H2 := []) rfl rfl (.inr rfl) rfl rfl (fun _ h => h) (nd_t18 rfl ?_)
      first | refine d_opH (env' := _) (H2 := []) rfl rfl (.inr rfl) rfl rfl (fun _ h => h) (nd_t18 rfl ?_) | (refine y_index rfl rfl (by assumption) rfl el29 (by omega) (by assumption) rfl (fun bo => ?_); refine nd_t18 rfl ?_)
      refine d_opH (env' := _) (H2 := []) rfl rfl (.inr rfl) rfl rfl (fun _ h => h) (nd_t18 rfl ?_)
      refine d_opH (env' := _) (H2 := []) rfl rfl (.inr rfl) rfl rfl (fun _ h => h) (nd_t18 rfl ?_)
      refine d_end rfl ?_
      refine vc_cond rfl (fun hc26 => ?_) (fun hc26 => ?_)
      · skip
        simp at hc26
      · skip
        refine vc_skip ?_
        refine n_block ?_
        refine n_then ?_
        refine w_region ?_
        refine w_opN (env' := _) rfl rfl rfl (fun _ h => h) (nv_t18 rfl ?_)
        refine w_opN (env' := _) rfl rfl rfl (fun _ h => h) (nv_t18 rfl ?_)
        refine w_opN (env' := _) rfl rfl rfl (fun _ h => h) (nv_t18 rfl ?_)
        refine w_end rfl ?_
        refine hY0 ⟨i + 1, hlt⟩ (by simp only; omega) _ _ _ ⟨.inl rfl, .inl rfl, .inl rfl, .inl rfl, .inr rfl, .inl ?_, .inr rfl, .inr rfl, .inr rfl, .inr rfl, .inr rfl, .inr rfl, .inr rfl, .inr rfl, .inr rfl, .inr rfl, .inr rfl, .inr rfl, .inr rfl, .inr rfl, .inr rfl, .inr rfl, .inr rfl, .inr rfl, .inr rfl, .inr rfl, .inr rfl, .inr rfl, .inr rfl, .inr rfl, .inr rfl, .inr rfl, .inr rfl, .inr rfl, .inr rfl, .inr rfl, .inl rfl, .inl rfl, .inl rfl, .inl rfl, .inl rfl, .inl rfl, .inl rfl, .inl rfl, .inl rfl, .inl rfl, .inl rfl, .inl rfl, trivial⟩ rfl
        exact (int_succ (by omega)).symm
    · skip
      exact absurd hc15 (by simpa using hlt)
  · skip
    refine w_norm (env' := (_ :: _ :: _ :: _ :: _ :: _ :: _ :: _ :: _ :: _ :: _ :: _ :: _ :: _ :: _ :: _ :: _ :: _ :: _ :: _ :: _ :: _ :: _ :: _ :: _ :: _ :: _ :: _ :: _ :: _ :: _ :: _ :: _ :: _ :: _ :: _ :: _ :: _ :: _ :: _ :: _ :: _ :: _ :: _ :: _ :: _ :: _ :: _ :: [])) (H' := []) rfl rfl ?_
    refine w_skipN (env' := _) (wanted_f 10 (by kernel_rfl) rfl) rfl (nv_t18 rfl ?_)
    refine w_skipN (env' := _) (wanted_f 10 (by kernel_rfl) rfl) rfl (nv_t18 rfl ?_)
    refine w_skipN (env' := _) (wanted_f 10 (by kernel_rfl) rfl) rfl (nv_t18 rfl ?_)
    refine w_skipN (env' := _) (wanted_f 10 (by kernel_rfl) rfl) rfl (nv_t18 rfl ?_)
    refine w_opN (env' := _) rfl rfl rfl (fun _ h => h) (nv_t18 rfl ?_)
    refine w_end rfl ?_
    refine vc_false rfl ?_
    refine vc_exit ?_
    refine x_then ?_
    refine x_then ?_
    refine x_same ?_
    refine n_then ?_
    refine vc_seq ?_
    refine vc_block ?_
    refine vc_seq ?_
    refine w_region ?_
    refine w_opN (env' := _) rfl rfl rfl (fun _ h => h) (nv_t18 rfl ?_)
    first | refine w_opN (env' := _) rfl rfl rfl (fun _ h => h) (nv_t18 rfl ?_) | refine x_len (env' := _) rfl rfl (by assumption) Tryd.underlying29 rfl (nv_t18 rfl ?_)
    refine w_opN (env' := _) rfl rfl rfl (fun _ h => h) (nv_t18 rfl ?_)
    first | refine w_opN (env' := _) rfl rfl rfl (fun _ h => h) (nv_t18 rfl ?_) | refine x_len (env' := _) rfl rfl (by assumption) Tryd.underlying29 rfl (nv_t18 rfl ?_)
    refine w_opN (env' := _) rfl rfl rfl (fun _ h => h) (nv_t18 rfl ?_)
    refine w_opN (env' := _) rfl rfl rfl (fun _ h => h) (nv_t18 rfl ?_)
    refine w_end rfl ?_
    refine vc_cond rfl (fun hc36 => ?_) (fun hc36 => ?_)
    · skip
      simp at hc36
    · skip
      refine vc_seq ?_
      refine w_region ?_
      refine w_opN (env' := _) rfl rfl rfl (fun _ h => h) (nv_t18 rfl ?_)
      first | refine w_opN (env' := _) rfl rfl rfl (fun _ h => h) (nv_t18 rfl ?_) | refine x_len (env' := _) rfl rfl (by assumption) Tryd.underlying29 rfl (nv_t18 rfl ?_)
      refine w_opN (env' := _) rfl rfl rfl (fun _ h => h) (nv_t18 rfl ?_)
      first | refine w_opN (env' := _) rfl rfl rfl (fun _ h => h) (nv_t18 rfl ?_) | refine x_len (env' := _) rfl rfl (by assumption) Tryd.underlying29 rfl (nv_t18 rfl ?_)
      refine w_opN (env' := _) rfl rfl rfl (fun _ h => h) (nv_t18 rfl ?_)
      refine w_opN (env' := _) rfl rfl rfl (fun _ h => h) (nv_t18 rfl ?_)
      refine w_end rfl ?_
      refine vc_cond rfl (fun hc42 => ?_) (fun hc42 => ?_)
      · skip
        simp at hc42
      · skip
        refine vc_skip ?_
        refine n_block ?_
        refine n_then ?_
        refine vc_seq ?_
        refine w_region ?_
        refine w_opN (env' := _) rfl rfl rfl (fun _ h => h) (nv_t18 rfl ?_)
        refine w_end rfl ?_
        refine vc_ret ?_
        refine r_fn rfl ?_
        -- return 0
        rfl
theorem nv_t8 {P : Program} {G : Glob} {md : Oper → Md} {ops : Array Oper} {r : List Oper} {env : List AV} {x0 x1 x2 x3 x4 x5 x6 x7 x8 x9 x10 x11 x12 x13 x14 x15 x16 x17 x18 x19 x20 x21 x22 x23 x24 x25 x26 x27 x28 x29 x30 x31 x32 x33 x34 x35 x36 x37 x38 x39 x40 x41 x42 x43 x44 x45 x46 x47 x48 x49 x50 x51 x52 x53 x54 x55 : AV} {H : Hp} {K : List AV → Hp → Prop} (he : env = (x0 :: x1 :: x2 :: x3 :: x4 :: x5 :: x6 :: x7 :: x8 :: x9 :: x10 :: x11 :: x12 :: x13 :: x14 :: x15 :: x16 :: x17 :: x18 :: x19 :: x20 :: x21 :: x22 :: x23 :: x24 :: x25 :: x26 :: x27 :: x28 :: x29 :: x30 :: x31 :: x32 :: x33 :: x34 :: x35 :: x36 :: x37 :: x38 :: x39 :: x40 :: x41 :: x42 :: x43 :: x44 :: x45 :: x46 :: x47 :: x48 :: x49 :: x50 :: x51 :: x52 :: x53 :: x54 :: x55 :: [])) (h : vops P G md ops r (x0 :: x1 :: x2 :: x3 :: x4 :: x5 :: x6 :: x7 :: x8 :: x9 :: x10 :: x11 :: x12 :: x13 :: x14 :: x15 :: x16 :: x17 :: x18 :: x19 :: x20 :: x21 :: x22 :: x23 :: x24 :: x25 :: x26 :: x27 :: x28 :: x29 :: x30 :: x31 :: x32 :: x33 :: x34 :: x35 :: x36 :: x37 :: x38 :: x39 :: x40 :: x41 :: x42 :: x43 :: x44 :: x45 :: x46 :: x47 :: x48 :: x49 :: x50 :: x51 :: x52 :: x53 :: x54 :: x55 :: []) H K) : vops P G md ops r env H K := by rw [he]; exact h
theorem nd_t8 {P : Program} {G : Glob} {md : Oper → Md} {ops : Array Oper} {r : List Oper} {env : List AV} {x0 x1 x2 x3 x4 x5 x6 x7 x8 x9 x10 x11 x12 x13 x14 x15 x16 x17 x18 x19 x20 x21 x22 x23 x24 x25 x26 x27 x28 x29 x30 x31 x32 x33 x34 x35 x36 x37 x38 x39 x40 x41 x42 x43 x44 x45 x46 x47 x48 x49 x50 x51 x52 x53 x54 x55 : AV} {H : Hp} {K : List AV → Hp → Prop} (he : env = (x0 :: x1 :: x2 :: x3 :: x4 :: x5 :: x6 :: x7 :: x8 :: x9 :: x10 :: x11 :: x12 :: x13 :: x14 :: x15 :: x16 :: x17 :: x18 :: x19 :: x20 :: x21 :: x22 :: x23 :: x24 :: x25 :: x26 :: x27 :: x28 :: x29 :: x30 :: x31 :: x32 :: x33 :: x34 :: x35 :: x36 :: x37 :: x38 :: x39 :: x40 :: x41 :: x42 :: x43 :: x44 :: x45 :: x46 :: x47 :: x48 :: x49 :: x50 :: x51 :: x52 :: x53 :: x54 :: x55 :: [])) (h : vopsD P G md ops r (x0 :: x1 :: x2 :: x3 :: x4 :: x5 :: x6 :: x7 :: x8 :: x9 :: x10 :: x11 :: x12 :: x13 :: x14 :: x15 :: x16 :: x17 :: x18 :: x19 :: x20 :: x21 :: x22 :: x23 :: x24 :: x25 :: x26 :: x27 :: x28 :: x29 :: x30 :: x31 :: x32 :: x33 :: x34 :: x35 :: x36 :: x37 :: x38 :: x39 :: x40 :: x41 :: x42 :: x43 :: x44 :: x45 :: x46 :: x47 :: x48 :: x49 :: x50 :: x51 :: x52 :: x53 :: x54 :: x55 :: []) H K) : vopsD P G md ops r env H K := by rw [he]; exact h
theorem t8 (G : Glob) (last : Int) (pages : AV) (hL : IsL pages) (hlen : (lrows pages).length < 9223372036854775808) (hp : ∀ r ∈ lrows pages, PageOk r) : Vi.Fn Tryd.prog G 8 [.agg [.int .i64 last, pages], .agg [.int .i64 last, pages]] (.bool true) := by
  refine fn_body (fun _ => .iso) Tryd.func8 rfl ?_
  refine vc_norm (env' := (_ :: _ :: _ :: _ :: _ :: _ :: _ :: _ :: _ :: _ :: _ :: _ :: _ :: _ :: _ :: _ :: _ :: _ :: _ :: _ :: _ :: _ :: _ :: _ :: _ :: _ :: _ :: _ :: _ :: _ :: _ :: _ :: _ :: _ :: _ :: _ :: _ :: _ :: _ :: _ :: _ :: _ :: _ :: _ :: _ :: _ :: _ :: _ :: _ :: _ :: _ :: _ :: _ :: _ :: _ :: _ :: [])) (H' := []) rfl rfl ?_
  refine vc_seq ?_
  refine w_region ?_
  refine w_opH (v := .ptr 0 0 0) (env' := _) (H2 := [.arr 24 2 [[_, _]]]) rfl rfl rfl rfl (fun _ h => h) (nv_t8 rfl ?_)
  refine w_opH (v := .ptr 1 0 0) (env' := _) (H2 := [.arr 24 2 [[_, _]], .arr 24 2 [[_, _]]]) rfl rfl rfl rfl (fun _ h => h) (nv_t8 rfl ?_)
  refine w_opN (env' := _) rfl rfl rfl (fun _ h => h) (nv_t8 rfl ?_)
  refine w_end rfl ?_
  refine vc_seq ?_
  refine vc_seq ?_
  refine w_region ?_
  refine w_opN (v := .ptr 0 0 0) (env' := _) rfl rfl rfl (fun _ h => h) (nv_t8 rfl ?_)
  refine w_opN (env' := _) rfl rfl rfl (fun _ h => h) (nv_t8 rfl ?_)
  refine w_opN (v := .ptr 1 0 0) (env' := _) rfl rfl rfl (fun _ h => h) (nv_t8 rfl ?_)
  refine w_opN (env' := _) rfl rfl rfl (fun _ h => h) (nv_t8 rfl ?_)
  refine w_opN (env' := _) rfl rfl rfl (fun _ h => h) (nv_t8 rfl ?_)
  refine w_opN (env' := _) rfl rfl rfl (fun _ h => h) (nv_t8 rfl ?_)
  refine w_split 11 rfl (fun hg11 => ?_) (fun hg11 => ?_)
  · skip
    simp at hg11
  · skip
    refine w_norm (env' := (_ :: _ :: _ :: _ :: _ :: _ :: _ :: _ :: _ :: _ :: _ :: _ :: _ :: _ :: _ :: _ :: _ :: _ :: _ :: _ :: _ :: _ :: _ :: _ :: _ :: _ :: _ :: _ :: _ :: _ :: _ :: _ :: _ :: _ :: _ :: _ :: _ :: _ :: _ :: _ :: _ :: _ :: _ :: _ :: _ :: _ :: _ :: _ :: _ :: _ :: _ :: _ :: _ :: _ :: _ :: _ :: [])) (H' := [.arr 24 2 [[_, _]], .arr 24 2 [[_, _]]]) rfl rfl ?_
    refine w_opN (v := .ptr 0 0 1) (env' := _) (wanted_t 11 (by kernel_rfl) rfl) rfl rfl (fun _ h => h) (nv_t8 rfl ?_)
    refine w_opN (env' := _) (wanted_t 11 (by kernel_rfl) rfl) rfl rfl (fun _ h => h) (nv_t8 rfl ?_)
    first | refine w_opN (env' := _) (wanted_t 11 (by kernel_rfl) rfl) rfl rfl (fun _ h => h) (nv_t8 rfl ?_) | refine x_len (env' := _) (wanted_t 11 (by kernel_rfl) rfl) rfl (by assumption) Tryd.underlying22 rfl (nv_t8 rfl ?_)
    refine w_opN (v := .ptr 1 0 1) (env' := _) (wanted_t 11 (by kernel_rfl) rfl) rfl rfl (fun _ h => h) (nv_t8 rfl ?_)
    refine w_opN (env' := _) (wanted_t 11 (by kernel_rfl) rfl) rfl rfl (fun _ h => h) (nv_t8 rfl ?_)
    first | refine w_opN (env' := _) (wanted_t 11 (by kernel_rfl) rfl) rfl rfl (fun _ h => h) (nv_t8 rfl ?_) | refine x_len (env' := _) (wanted_t 11 (by kernel_rfl) rfl) rfl (by assumption) Tryd.underlying22 rfl (nv_t8 rfl ?_)
    refine w_opN (env' := _) (wanted_t 11 (by kernel_rfl) rfl) rfl rfl (fun _ h => h) (nv_t8 rfl ?_)
    refine w_opN (env' := _) rfl rfl rfl (fun _ h => h) (nv_t8 rfl ?_)
    refine w_end rfl ?_
    refine vc_cond rfl (fun hc19 => ?_) (fun hc19 => ?_)
    · skip
      simp at hc19
    · skip
      refine vc_skip ?_
      refine n_then ?_
      refine vc_seq ?_
      refine vc_seq ?_
      refine w_region ?_
      refine w_opN (env' := _) rfl rfl rfl (fun _ h => h) (nv_t8 rfl ?_)
      refine w_end rfl ?_
      refine vc_block ?_
      refine vc_loopU (α := { i : Nat // i ≤ (lrows pages).length }) (fun i => (none :: none :: none :: none :: (some .undef) :: (some (.int .i64 (i.1 : Nat))) :: none :: none :: none :: none :: none :: none :: none :: none :: none :: none :: none :: none :: none :: none :: (some .undef) :: (some .undef) :: (some .undef) :: (some .undef) :: (some .undef) :: (some .undef) :: (some .undef) :: (some .undef) :: (some .undef) :: (some .undef) :: (some .undef) :: (some .undef) :: (some .undef) :: (some .undef) :: (some .undef) :: (some .undef) :: (some .undef) :: (some .undef) :: (some .undef) :: (some .undef) :: (some .undef) :: (some .undef) :: (some .undef) :: (some .undef) :: (some .undef) :: (some .undef) :: (some .undef) :: (some .undef) :: (some .undef) :: (some .undef) :: (some .undef) :: (some .undef) :: (some .undef) :: (some .undef) :: (some .undef) :: (some .undef) :: [])) (fun i => (lrows pages).length - i.1) ⟨0, by omega⟩ ⟨.inl rfl, .inl rfl, .inl rfl, .inl rfl, .inr rfl, .inl rfl, .inl rfl, .inl rfl, .inl rfl, .inl rfl, .inl rfl, .inl rfl, .inl rfl, .inl rfl, .inl rfl, .inl rfl, .inl rfl, .inl rfl, .inl rfl, .inl rfl, .inr rfl, .inr rfl, .inr rfl, .inr rfl, .inr rfl, .inr rfl, .inr rfl, .inr rfl, .inr rfl, .inr rfl, .inr rfl, .inr rfl, .inr rfl, .inr rfl, .inr rfl, .inr rfl, .inr rfl, .inr rfl, .inr rfl, .inr rfl, .inr rfl, .inr rfl, .inr rfl, .inr rfl, .inr rfl, .inr rfl, .inr rfl, .inr rfl, .inr rfl, .inr rfl, .inr rfl, .inr rfl, .inr rfl, .inr rfl, .inr rfl, .inr rfl, trivial⟩ (fun _ => ⟨Nat.zero_le _, ⟨(by first | exact trivial | exact IsL.belowV (by assumption) | ((repeat' (first | exact trivial | exact IsL.below (by assumption) | refine ⟨?_, ?_⟩)); done) | (simp [valB, leafB, cellsB, IsL.below, *]; done) | (simp [valB, leafB, cellsB, IsL.below, *]; omega)), (by first | exact trivial | exact IsL.belowV (by assumption) | ((repeat' (first | exact trivial | exact IsL.below (by assumption) | refine ⟨?_, ?_⟩)); done) | (simp [valB, leafB, cellsB, IsL.below, *]; done) | (simp [valB, leafB, cellsB, IsL.below, *]; omega)), (by first | exact trivial | exact IsL.belowV (by assumption) | ((repeat' (first | exact trivial | exact IsL.below (by assumption) | refine ⟨?_, ?_⟩)); done) | (simp [valB, leafB, cellsB, IsL.below, *]; done) | (simp [valB, leafB, cellsB, IsL.below, *]; omega)), (by first | exact trivial | exact IsL.belowV (by assumption) | ((repeat' (first | exact trivial | exact IsL.below (by assumption) | refine ⟨?_, ?_⟩)); done) | (simp [valB, leafB, cellsB, IsL.below, *]; done) | (simp [valB, leafB, cellsB, IsL.below, *]; omega)), trivial, (by first | exact trivial | exact IsL.belowV (by assumption) | ((repeat' (first | exact trivial | exact IsL.below (by assumption) | refine ⟨?_, ?_⟩)); done) | (simp [valB, leafB, cellsB, IsL.below, *]; done) | (simp [valB, leafB, cellsB, IsL.below, *]; omega)), (by first | exact trivial | exact IsL.belowV (by assumption) | ((repeat' (first | exact trivial | exact IsL.below (by assumption) | refine ⟨?_, ?_⟩)); done) | (simp [valB, leafB, cellsB, IsL.below, *]; done) | (simp [valB, leafB, cellsB, IsL.below, *]; omega)), (by first | exact trivial | exact IsL.belowV (by assumption) | ((repeat' (first | exact trivial | exact IsL.below (by assumption) | refine ⟨?_, ?_⟩)); done) | (simp [valB, leafB, cellsB, IsL.below, *]; done) | (simp [valB, leafB, cellsB, IsL.below, *]; omega)), (by first | exact trivial | exact IsL.belowV (by assumption) | ((repeat' (first | exact trivial | exact IsL.below (by assumption) | refine ⟨?_, ?_⟩)); done) | (simp [valB, leafB, cellsB, IsL.below, *]; done) | (simp [valB, leafB, cellsB, IsL.below, *]; omega)), (by first | exact trivial | exact IsL.belowV (by assumption) | ((repeat' (first | exact trivial | exact IsL.below (by assumption) | refine ⟨?_, ?_⟩)); done) | (simp [valB, leafB, cellsB, IsL.below, *]; done) | (simp [valB, leafB, cellsB, IsL.below, *]; omega)), (by first | exact trivial | exact IsL.belowV (by assumption) | ((repeat' (first | exact trivial | exact IsL.below (by assumption) | refine ⟨?_, ?_⟩)); done) | (simp [valB, leafB, cellsB, IsL.below, *]; done) | (simp [valB, leafB, cellsB, IsL.below, *]; omega)), (by first | exact trivial | exact IsL.belowV (by assumption) | ((repeat' (first | exact trivial | exact IsL.below (by assumption) | refine ⟨?_, ?_⟩)); done) | (simp [valB, leafB, cellsB, IsL.below, *]; done) | (simp [valB, leafB, cellsB, IsL.below, *]; omega)), (by first | exact trivial | exact IsL.belowV (by assumption) | ((repeat' (first | exact trivial | exact IsL.below (by assumption) | refine ⟨?_, ?_⟩)); done) | (simp [valB, leafB, cellsB, IsL.below, *]; done) | (simp [valB, leafB, cellsB, IsL.below, *]; omega)), (by first | exact trivial | exact IsL.belowV (by assumption) | ((repeat' (first | exact trivial | exact IsL.below (by assumption) | refine ⟨?_, ?_⟩)); done) | (simp [valB, leafB, cellsB, IsL.below, *]; done) | (simp [valB, leafB, cellsB, IsL.below, *]; omega)), (by first | exact trivial | exact IsL.belowV (by assumption) | ((repeat' (first | exact trivial | exact IsL.below (by assumption) | refine ⟨?_, ?_⟩)); done) | (simp [valB, leafB, cellsB, IsL.below, *]; done) | (simp [valB, leafB, cellsB, IsL.below, *]; omega)), (by first | exact trivial | exact IsL.belowV (by assumption) | ((repeat' (first | exact trivial | exact IsL.below (by assumption) | refine ⟨?_, ?_⟩)); done) | (simp [valB, leafB, cellsB, IsL.below, *]; done) | (simp [valB, leafB, cellsB, IsL.below, *]; omega)), (by first | exact trivial | exact IsL.belowV (by assumption) | ((repeat' (first | exact trivial | exact IsL.below (by assumption) | refine ⟨?_, ?_⟩)); done) | (simp [valB, leafB, cellsB, IsL.below, *]; done) | (simp [valB, leafB, cellsB, IsL.below, *]; omega)), (by first | exact trivial | exact IsL.belowV (by assumption) | ((repeat' (first | exact trivial | exact IsL.below (by assumption) | refine ⟨?_, ?_⟩)); done) | (simp [valB, leafB, cellsB, IsL.below, *]; done) | (simp [valB, leafB, cellsB, IsL.below, *]; omega)), (by first | exact trivial | exact IsL.belowV (by assumption) | ((repeat' (first | exact trivial | exact IsL.below (by assumption) | refine ⟨?_, ?_⟩)); done) | (simp [valB, leafB, cellsB, IsL.below, *]; done) | (simp [valB, leafB, cellsB, IsL.below, *]; omega)), (by first | exact trivial | exact IsL.belowV (by assumption) | ((repeat' (first | exact trivial | exact IsL.below (by assumption) | refine ⟨?_, ?_⟩)); done) | (simp [valB, leafB, cellsB, IsL.below, *]; done) | (simp [valB, leafB, cellsB, IsL.below, *]; omega)), trivial, trivial, trivial, trivial, trivial, trivial, trivial, trivial, trivial, trivial, trivial, trivial, trivial, trivial, trivial, trivial, trivial, trivial, trivial, trivial, trivial, trivial, trivial, trivial, trivial, trivial, trivial, trivial, trivial, trivial, trivial, trivial, trivial, trivial, trivial, trivial, trivial⟩, (by repeat' first | exact trivial | exact IsL.below (by assumption) | refine ⟨?_, ?_⟩ | (simp [leafB]; done))⟩) ?_
      rintro ⟨i, hi⟩ Y0 hY0
      refine vc_norm (env' := (_ :: _ :: _ :: _ :: _ :: _ :: _ :: _ :: _ :: _ :: _ :: _ :: _ :: _ :: _ :: _ :: _ :: _ :: _ :: _ :: _ :: _ :: _ :: _ :: _ :: _ :: _ :: _ :: _ :: _ :: _ :: _ :: _ :: _ :: _ :: _ :: _ :: _ :: _ :: _ :: _ :: _ :: _ :: _ :: _ :: _ :: _ :: _ :: _ :: _ :: _ :: _ :: _ :: _ :: _ :: _ :: [])) (H' := [.arr 24 2 [[_, _]], .arr 24 2 [[_, _]]]) rfl rfl ?_
      refine vc_seq ?_
      refine vc_seq ?_
      refine w_region ?_
      refine w_opN (env' := _) rfl rfl rfl (fun _ h => h) (nv_t8 rfl ?_)
      refine w_opN (v := .ptr 0 0 1) (env' := _) rfl rfl rfl (fun _ h => h) (nv_t8 rfl ?_)
      refine w_opN (env' := _) rfl rfl rfl (fun _ h => h) (nv_t8 rfl ?_)
      first | refine w_opN (env' := _) rfl rfl rfl (fun _ h => h) (nv_t8 rfl ?_) | refine x_len (env' := _) rfl rfl (by assumption) Tryd.underlying22 rfl (nv_t8 rfl ?_)
      refine w_opN (env' := _) rfl rfl rfl (fun _ h => h) (nv_t8 rfl ?_)
      refine w_end rfl ?_
      refine vc_cond rfl (fun hc24 => ?_) (fun hc24 => ?_)
      · skip
        have hlt : i < (lrows pages).length := by simpa using hc24
        have hri : (lrows pages)[i]? = some (lrows pages)[i] := List.getElem?_eq_getElem hlt
        obtain ⟨b, st, hx, hLb, hb1, hb2⟩ := hp _ (List.getElem_mem hlt)
        rw [hx] at hri
        refine vc_skip ?_
        refine n_then ?_
        refine vc_seq ?_
        refine vc_block ?_
        refine vc_seq ?_
        refine w_regionD (by kernel_rfl) ?_
        refine d_opH (v := .ptr 0 0 1) (env' := _) (H2 := [.arr 24 2 [[_, _]], .arr 24 2 [[_, _]]]) rfl rfl (.inr rfl) rfl rfl (fun _ h => h) (nd_t8 rfl ?_)
        refine d_opH (env' := _) (H2 := [.arr 24 2 [[_, _]], .arr 24 2 [[_, _]]]) rfl rfl (.inr rfl) rfl rfl (fun _ h => h) (nd_t8 rfl ?_)
        refine d_opH (env' := _) (H2 := [.arr 24 2 [[_, _]], .arr 24 2 [[_, _]]]) rfl rfl (.inr rfl) rfl rfl (fun _ h => h) (nd_t8 rfl ?_)
        first | refine d_opH (v := .iptr _ [_, _]) (env' := _) (H2 := [.arr 24 2 [[_, _]], .arr 24 2 [[_, _]]]) rfl rfl (.inr rfl) rfl rfl (fun _ h => h) (nd_t8 rfl ?_) | (refine y_index rfl rfl (by assumption) rfl el22 (by omega) (by assumption) rfl (fun bo => ?_); refine nd_t8 rfl ?_)
        refine d_opH (v := .iptr _ [_]) (env' := _) (H2 := [.arr 24 2 [[_, _]], .arr 24 2 [[_, _]]]) rfl rfl (.inr rfl) rfl rfl (fun _ h => h) (nd_t8 rfl ?_)
        refine d_opH (env' := _) (H2 := [.arr 24 2 [[_, _]], .arr 24 2 [[_, _]]]) rfl rfl (.inr rfl) rfl rfl (fun _ h => h) (nd_t8 rfl ?_)
        refine d_opH (v := .ptr 1 0 1) (env' := _) (H2 := [.arr 24 2 [[_, _]], .arr 24 2 [[_, _]]]) rfl rfl (.inr rfl) rfl rfl (fun _ h => h) (nd_t8 rfl ?_)
        refine d_opH (env' := _) (H2 := [.arr 24 2 [[_, _]], .arr 24 2 [[_, _]]]) rfl rfl (.inr rfl) rfl rfl (fun _ h => h) (nd_t8 rfl ?_)
        refine d_opH (env' := _) (H2 := [.arr 24 2 [[_, _]], .arr 24 2 [[_, _]]]) rfl rfl (.inr rfl) rfl rfl (fun _ h => h) (nd_t8 rfl ?_)
        first | refine d_opH (v := .iptr _ [_, _]) (env' := _) (H2 := [.arr 24 2 [[_, _]], .arr 24 2 [[_, _]]]) rfl rfl (.inr rfl) rfl rfl (fun _ h => h) (nd_t8 rfl ?_) | (refine y_index rfl rfl (by assumption) rfl el22 (by omega) (by assumption) rfl (fun bo => ?_); refine nd_t8 rfl ?_)
        refine d_opH (v := .iptr _ [_]) (env' := _) (H2 := [.arr 24 2 [[_, _]], .arr 24 2 [[_, _]]]) rfl rfl (.inr rfl) rfl rfl (fun _ h => h) (nd_t8 rfl ?_)
        refine d_opH (env' := _) (H2 := [.arr 24 2 [[_, _]], .arr 24 2 [[_, _]]]) rfl rfl (.inr rfl) rfl rfl (fun _ h => h) (nd_t8 rfl ?_)
        refine d_opH (env' := _) (H2 := [.arr 24 2 [[_, _]], .arr 24 2 [[_, _]]]) rfl rfl (.inr rfl) rfl rfl (fun _ h => h) (nd_t8 rfl ?_)
        refine d_opH (env' := _) (H2 := [.arr 24 2 [[_, _]], .arr 24 2 [[_, _]]]) rfl rfl (.inr rfl) rfl rfl (fun _ h => h) (nd_t8 rfl ?_)
        refine d_split 40 rfl (fun hg40 => ?_) (fun hg40 => ?_)
        · skip
          simp at hg40
        · skip
          refine d_norm (env' := (_ :: _ :: _ :: _ :: _ :: _ :: _ :: _ :: _ :: _ :: _ :: _ :: _ :: _ :: _ :: _ :: _ :: _ :: _ :: _ :: _ :: _ :: _ :: _ :: _ :: _ :: _ :: _ :: _ :: _ :: _ :: _ :: _ :: _ :: _ :: _ :: _ :: _ :: _ :: _ :: _ :: _ :: _ :: _ :: _ :: _ :: _ :: _ :: _ :: _ :: _ :: _ :: _ :: _ :: _ :: _ :: [])) (H' := [.arr 24 2 [[_, _]], .arr 24 2 [[_, _]]]) rfl rfl ?_
          refine d_opH (v := .ptr 0 0 1) (env' := _) (H2 := [.arr 24 2 [[_, _]], .arr 24 2 [[_, _]]]) (wanted_t 40 (by kernel_rfl) rfl) rfl (.inr rfl) rfl rfl (fun _ h => h) (nd_t8 rfl ?_)
          refine d_opH (env' := _) (H2 := [.arr 24 2 [[_, _]], .arr 24 2 [[_, _]]]) (wanted_t 40 (by kernel_rfl) rfl) rfl (.inr rfl) rfl rfl (fun _ h => h) (nd_t8 rfl ?_)
          refine d_opH (env' := _) (H2 := [.arr 24 2 [[_, _]], .arr 24 2 [[_, _]]]) (wanted_t 40 (by kernel_rfl) rfl) rfl (.inr rfl) rfl rfl (fun _ h => h) (nd_t8 rfl ?_)
          first | refine d_opH (v := .iptr _ [_, _]) (env' := _) (H2 := [.arr 24 2 [[_, _]], .arr 24 2 [[_, _]]]) (wanted_t 40 (by kernel_rfl) rfl) rfl (.inr rfl) rfl rfl (fun _ h => h) (nd_t8 rfl ?_) | (refine y_index (wanted_t 40 (by kernel_rfl) rfl) rfl (by assumption) rfl el22 (by omega) (by assumption) rfl (fun bo => ?_); refine nd_t8 rfl ?_)
          refine d_opH (v := .iptr _ [_, _]) (env' := _) (H2 := [.arr 24 2 [[_, _]], .arr 24 2 [[_, _]]]) (wanted_t 40 (by kernel_rfl) rfl) rfl (.inr rfl) rfl rfl (fun _ h => h) (nd_t8 rfl ?_)
          refine d_opH (env' := _) (H2 := [.arr 24 2 [[_, _]], .arr 24 2 [[_, _]]]) (wanted_t 40 (by kernel_rfl) rfl) rfl (.inr rfl) rfl rfl (fun _ h => h) (nd_t8 rfl ?_)
          refine d_opH (v := .ptr 1 0 1) (env' := _) (H2 := [.arr 24 2 [[_, _]], .arr 24 2 [[_, _]]]) (wanted_t 40 (by kernel_rfl) rfl) rfl (.inr rfl) rfl rfl (fun _ h => h) (nd_t8 rfl ?_)
          refine d_opH (env' := _) (H2 := [.arr 24 2 [[_, _]], .arr 24 2 [[_, _]]]) (wanted_t 40 (by kernel_rfl) rfl) rfl (.inr rfl) rfl rfl (fun _ h => h) (nd_t8 rfl ?_)
          refine d_opH (env' := _) (H2 := [.arr 24 2 [[_, _]], .arr 24 2 [[_, _]]]) (wanted_t 40 (by kernel_rfl) rfl) rfl (.inr rfl) rfl rfl (fun _ h => h) (nd_t8 rfl ?_)
          first | refine d_opH (v := .iptr _ [_, _]) (env' := _) (H2 := [.arr 24 2 [[_, _]], .arr 24 2 [[_, _]]]) (wanted_t 40 (by kernel_rfl) rfl) rfl (.inr rfl) rfl rfl (fun _ h => h) (nd_t8 rfl ?_) | (refine y_index (wanted_t 40 (by kernel_rfl) rfl) rfl (by assumption) rfl el22 (by omega) (by assumption) rfl (fun bo => ?_); refine nd_t8 rfl ?_)
          refine d_opH (v := .iptr _ [_, _]) (env' := _) (H2 := [.arr 24 2 [[_, _]], .arr 24 2 [[_, _]]]) (wanted_t 40 (by kernel_rfl) rfl) rfl (.inr rfl) rfl rfl (fun _ h => h) (nd_t8 rfl ?_)
          refine d_opH (env' := _) (H2 := [.arr 24 2 [[_, _]], .arr 24 2 [[_, _]]]) (wanted_t 40 (by kernel_rfl) rfl) rfl (.inr rfl) rfl rfl (fun _ h => h) (nd_t8 rfl ?_)
          refine d_callI (env' := _) (wanted_t 40 (by kernel_rfl) rfl) rfl rfl (by kernel_rfl) rfl (by repeat' first | exact mapL_nil | exact IsL.lend (by assumption) | exact IsL.lend0 (by assumption) | refine mapL_cons ?_ ?_ | refine mapL_app ?_ ?_ | refine lend_agg ?_ | refine lend_cloG ?_ | exact lend0_ptr rfl rfl (by simp [isVal_int, isVal_bool, isVal_str, isVal_nils, isVal_loose, *]) | exact lend_ptr rfl rfl (by simp [isVal_int, isVal_bool, isVal_str, isVal_nils, isVal_loose, *]) | rfl) (t18 G b hLb hb1 hb2) rfl (nd_t8 rfl ?_)
          refine d_opH (env' := _) (H2 := [.arr 24 2 [[_, _]], .arr 24 2 [[_, _]]]) (wanted_t 40 (by kernel_rfl) rfl) rfl (.inr rfl) rfl rfl (fun _ h => h) (nd_t8 rfl ?_)
          refine d_opH (env' := _) (H2 := [.arr 24 2 [[_, _]], .arr 24 2 [[_, _]]]) rfl rfl (.inr rfl) rfl rfl (fun _ h => h) (nd_t8 rfl ?_)
          refine d_end rfl ?_
          refine vc_cond rfl (fun hc55 => ?_) (fun hc55 => ?_)
          · skip
            simp at hc55
          · skip
            refine vc_skip ?_
            refine n_block ?_
            refine n_then ?_
            refine w_region ?_
            refine w_opN (env' := _) rfl rfl rfl (fun _ h => h) (nv_t8 rfl ?_)
            refine w_opN (env' := _) rfl rfl rfl (fun _ h => h) (nv_t8 rfl ?_)
            refine w_opN (env' := _) rfl rfl rfl (fun _ h => h) (nv_t8 rfl ?_)
            refine w_end rfl ?_
            refine hY0 ⟨i + 1, hlt⟩ (by simp only; omega) _ _ _ ⟨.inl rfl, .inl rfl, .inl rfl, .inl rfl, .inr rfl, .inl ?_, .inl rfl, .inl rfl, .inl rfl, .inl rfl, .inl rfl, .inl rfl, .inl rfl, .inl rfl, .inl rfl, .inl rfl, .inl rfl, .inl rfl, .inl rfl, .inl rfl, .inr rfl, .inr rfl, .inr rfl, .inr rfl, .inr rfl, .inr rfl, .inr rfl, .inr rfl, .inr rfl, .inr rfl, .inr rfl, .inr rfl, .inr rfl, .inr rfl, .inr rfl, .inr rfl, .inr rfl, .inr rfl, .inr rfl, .inr rfl, .inr rfl, .inr rfl, .inr rfl, .inr rfl, .inr rfl, .inr rfl, .inr rfl, .inr rfl, .inr rfl, .inr rfl, .inr rfl, .inr rfl, .inr rfl, .inr rfl, .inr rfl, .inr rfl, trivial⟩ rfl
            exact (int_succ (by omega)).symm
      · skip
        refine vc_exit ?_
        refine x_then ?_
        refine x_then ?_
        refine x_same ?_
        refine n_then ?_
        refine vc_seq ?_
        refine w_region ?_
        refine w_opN (env' := _) rfl rfl rfl (fun _ h => h) (nv_t8 rfl ?_)
        refine w_end rfl ?_
        refine vc_ret ?_
        refine r_fn rfl ?_
        -- return 0
        rfl
end Go.Vi
