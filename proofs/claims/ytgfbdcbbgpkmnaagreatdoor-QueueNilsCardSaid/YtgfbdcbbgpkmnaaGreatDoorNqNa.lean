/- Names: walks. -/
import Derived.Test.YtgfbdcbbgpkmnaaGreatDoorViY
import Derived.Test.YtgfbdcbbgpkmnaaGreatDoorProg
set_option autoImplicit false
set_option linter.unusedVariables false
set_option linter.unusedSimpArgs false
set_option maxRecDepth 100000
namespace Go.Vi
open Go Go.Vi Go.Proofs
attribute [local irreducible] vops vopsD vc

def cAt (s : ByteArray) (i : Nat) : Int := ((s.data.toList[i]?.getD 0).toNat : Nat)
def letB (c : Int) : Bool := decide (c ≥ 65) && decide (c ≤ 90)
def badC (s : ByteArray) (i : Nat) : Bool := !letB (cAt s i) && (decide (i = 0) || decide (cAt s i < 48) || decide (cAt s i > 57))
def isNameB (s : ByteArray) : Bool := !(List.range s.size).any (badC s) && (decide (1 ≤ s.size) && decide (s.size ≤ 8))
theorem cat_index {P : Program} {t : TypeId} {s : ByteArray} {i : Nat} (hu : P.underlying t = some .string) (h : i < s.size) : vindex P t (.str s) (.int .i64 (i : Nat)) = some (.int .u8 (cAt s i)) := by
  have h' : i < s.data.size := h
  have h2 : i < s.data.toList.length := by simpa using h'
  simp only [vindex, hu]
  simp [cAt, h, h']
  rfl
theorem g_cat {P : Program} {H : Hp} {t : TypeId} {s : ByteArray} {i : Nat} (hu : P.underlying t = some .string) (h : i < s.size) : (vindex P t (.str s) (.int .i64 (i : Nat))).map (·, H) = some (.int .u8 (cAt s i), H) := by rw [cat_index hu h]; rfl
theorem badC_succ {s : ByteArray} {i : Nat} (hn : ∀ j, j < i → badC s j = false) (h : badC s i = false) : ∀ j, j < i + 1 → badC s j = false := fun j hj => by
  by_cases e : j = i
  · subst e; exact h
  · exact hn j (by omega)
theorem name_bad {s : ByteArray} {i : Nat} (hi : i < s.size) (h : badC s i = true) : isNameB s = false := by
  have : (List.range s.size).any (badC s) = true := List.any_eq_true.2 ⟨i, List.mem_range.2 hi, h⟩
  simp [isNameB, this]
theorem name_end {s : ByteArray} {i : Nat} (hn : ∀ j, j < i → badC s j = false) (hge : s.size ≤ i) : isNameB s = (decide (1 ≤ s.size) && decide (s.size ≤ 8)) := by
  have : (List.range s.size).any (badC s) = false := List.any_eq_false.2 fun j hj => by rw [hn j (by have := List.mem_range.1 hj; omega)]; simp
  simp [isNameB, this]

theorem nName (G : Glob) (s : ByteArray) (hs : s.size < 9223372036854775808) : Vi.Fn Tryz.prog G 73 [.str s] (.bool (isNameB s)) := by
 refine fn_body (fun _ => .iso) Tryz.func73 rfl ?_
 refine vc_norm (env' := (_ :: _ :: _ :: _ :: _ :: _ :: _ :: _ :: _ :: _ :: _ :: _ :: _ :: _ :: _ :: _ :: _ :: _ :: _ :: _ :: _ :: _ :: _ :: _ :: _ :: _ :: _ :: _ :: _ :: _ :: _ :: _ :: _ :: _ :: _ :: _ :: _ :: _ :: _ :: _ :: _ :: _ :: _ :: _ :: _ :: _ :: _ :: [])) (H' := []) rfl rfl ?_
 refine vs (wr ?_)
 refine wN rfl rfl rfl (v47 rfl ?_)
 refine we rfl (vs (vs (wr ?_)))
 iterate 3 refine wN rfl rfl rfl (v47 rfl ?_)
 refine we rfl (vc_block ?_)
 refine vc_loopU (α := { i : Nat // (∀ j, j < i → badC s j = false) ∧ i ≤ s.size }) (fun i => ([none, none, some .undef, some .undef, some .undef, none, none, some (.int .i64 (i.1 : Nat))] ++ (rundef 31 ++ (rnone 8)))) (fun i => s.size - i.1) ⟨0, fun j h => by omega, Nat.zero_le _⟩ (by repeat' first | exact trivial | refine ⟨.inr rfl, ?_⟩ | refine ⟨.inl rfl, ?_⟩ | fail) (fun _ => ⟨Nat.zero_le _, (by repeat' first | exact trivial | exact IsL.belowV ‹_› | refine ⟨?_, ?_⟩ | exact IsL.below ‹_› | (simp [valB, leafB, cellsB, IsL.below, *]; done) | (simp [valB, leafB, cellsB, IsL.below, *]; omega) | fail), (by repeat' first | exact trivial | exact IsL.below (by assumption) | refine ⟨?_, ?_⟩ | (simp [leafB]; done))⟩) ?_
 rintro ⟨i, hn, hi⟩ Y0 hY0
 refine vc_norm (env' := (_ :: _ :: _ :: _ :: _ :: _ :: _ :: _ :: _ :: _ :: _ :: _ :: _ :: _ :: _ :: _ :: _ :: _ :: _ :: _ :: _ :: _ :: _ :: _ :: _ :: _ :: _ :: _ :: _ :: _ :: _ :: _ :: _ :: _ :: _ :: _ :: _ :: _ :: _ :: _ :: _ :: _ :: _ :: _ :: _ :: _ :: _ :: [])) (H' := []) rfl rfl ?_
 refine vs (wr ?_)
 refine wN rfl rfl rfl (v47 rfl ?_)
 refine we rfl (vs ?_)
 refine vc_cond rfl (fun hc8 => ?_) (fun hc8 => ?_)
 ·
  have hlt : i < s.size := by simpa using hc8
  refine vc_skip (n_then (vs (vc_block (vs (wr ?_)))))
  iterate 2 refine wN rfl rfl rfl (v47 rfl ?_)
  refine we rfl (vs (wr ?_))
  iterate 2 refine wN rfl rfl rfl (v47 rfl ?_)
  refine wN (v := .int .u8 (cAt s i)) rfl (g_cat Tryz.underlying9 hlt) rfl (v47 rfl ?_)
  iterate 2 refine wN rfl rfl rfl (v47 rfl ?_)
  refine w_split 14 rfl (fun hg14 => ?_) (fun hg14 => ?_)
  ·
   refine v47 rfl ?_
   iterate 2 refine wN (wanted_t 14 (by kernel_rfl) rfl) rfl rfl (v47 rfl ?_)
   refine wN (v := .int .u8 (cAt s i)) (wanted_t 14 (by kernel_rfl) rfl) (g_cat Tryz.underlying9 hlt) rfl (v47 rfl ?_)
   refine wN (wanted_t 14 (by kernel_rfl) rfl) rfl rfl (v47 rfl ?_)
   iterate 2 refine wN rfl rfl rfl (v47 rfl ?_)
   refine we rfl (vs (wr ?_))
   iterate 3 refine wN rfl rfl rfl (v47 rfl ?_)
   refine w_split 22 rfl (fun hg22 => ?_) (fun hg22 => ?_)
   ·
    refine v47 rfl ?_
    iterate 3 refine wN (wanted_t 22 (by kernel_rfl) rfl) rfl rfl (v47 rfl ?_)
    refine w_split 25 rfl (fun hg25 => ?_) (fun hg25 => ?_)
    ·
     refine v47 rfl ?_
     iterate 4 refine wS (wanted_f 25 (by kernel_rfl) rfl) (v47 rfl ?_)
     iterate 2 refine wN (wanted_t 22 (by kernel_rfl) rfl) rfl rfl (v47 rfl ?_)
     iterate 4 refine wS (wanted_f 31 (by kernel_rfl) rfl) (v47 rfl ?_)
     refine wN (wanted_t 22 (by kernel_rfl) rfl) rfl rfl (v47 rfl ?_)
     refine wN rfl rfl rfl (v47 rfl ?_)
     refine we rfl ?_
     refine vc_true rfl ?_
     refine vs (wr ?_)
     refine wN rfl rfl rfl (v47 rfl ?_)
     refine we rfl (vc_ret (r_block (r_then (r_then (r_block (r_then (r_fn rfl ?_)))))))
     rw [name_bad hlt (by simp_all [badC, letB])]
     rfl
    ·
     refine v47 rfl ?_
     iterate 2 refine wN (wanted_t 25 (by kernel_rfl) rfl) rfl rfl (v47 rfl ?_)
     refine wN (v := .int .u8 (cAt s i)) (wanted_t 25 (by kernel_rfl) rfl) (g_cat Tryz.underlying9 hlt) rfl (v47 rfl ?_)
     refine wN (wanted_t 25 (by kernel_rfl) rfl) rfl rfl (v47 rfl ?_)
     iterate 2 refine wN (wanted_t 22 (by kernel_rfl) rfl) rfl rfl (v47 rfl ?_)
     refine w_split 31 rfl (fun hg31 => ?_) (fun hg31 => ?_)
     ·
      refine v47 rfl ?_
      iterate 4 refine wS (wanted_f 31 (by kernel_rfl) rfl) (v47 rfl ?_)
      refine wN (wanted_t 22 (by kernel_rfl) rfl) rfl rfl (v47 rfl ?_)
      refine wN rfl rfl rfl (v47 rfl ?_)
      refine we rfl ?_
      refine vc_true rfl ?_
      refine vs (wr ?_)
      refine wN rfl rfl rfl (v47 rfl ?_)
      refine we rfl (vc_ret (r_block (r_then (r_then (r_block (r_then (r_fn rfl ?_)))))))
      rw [name_bad hlt (by simp_all [badC, letB])]
      rfl
     ·
      refine v47 rfl ?_
      iterate 2 refine wN (wanted_t 31 (by kernel_rfl) rfl) rfl rfl (v47 rfl ?_)
      refine wN (v := .int .u8 (cAt s i)) (wanted_t 31 (by kernel_rfl) rfl) (g_cat Tryz.underlying9 hlt) rfl (v47 rfl ?_)
      refine wN (wanted_t 31 (by kernel_rfl) rfl) rfl rfl (v47 rfl ?_)
      refine wN (wanted_t 22 (by kernel_rfl) rfl) rfl rfl (v47 rfl ?_)
      refine wN rfl rfl rfl (v47 rfl ?_)
      refine we rfl ?_
      refine vc_cond rfl (fun hc37 => ?_) (fun hc37 => ?_)
      ·
       refine vs (wr ?_)
       refine wN rfl rfl rfl (v47 rfl ?_)
       refine we rfl (vc_ret (r_block (r_then (r_then (r_block (r_then (r_fn rfl ?_)))))))
       rw [name_bad hlt (by simp_all [badC, letB])]
       rfl
      ·
       refine vc_skip (n_block (n_then (wr ?_)))
       iterate 2 refine wN rfl rfl rfl (v47 rfl ?_)
       refine we rfl ?_
       refine hY0 ⟨i + 1, badC_succ hn (by simp_all [badC, letB]), hlt⟩ (by simp only; omega) _ _ _ ?_ rfl
       repeat' first | exact trivial | refine ⟨.inr rfl, ?_⟩ | refine ⟨.inl rfl, ?_⟩ | refine ⟨.inl ?_, ?_⟩ | fail
       all_goals first | exact (int_succ (by omega)).symm
   ·
    refine v47 rfl ?_
    iterate 3 refine wS (wanted_f 22 (by kernel_rfl) rfl) (v47 rfl ?_)
    iterate 4 refine wS (wanted_k 25 (by kernel_rfl) rfl) (v47 rfl ?_)
    iterate 2 refine wS (wanted_f 22 (by kernel_rfl) rfl) (v47 rfl ?_)
    iterate 4 refine wS (wanted_k 31 (by kernel_rfl) rfl) (v47 rfl ?_)
    refine wS (wanted_f 22 (by kernel_rfl) rfl) (v47 rfl ?_)
    refine wN rfl rfl rfl (v47 rfl ?_)
    refine we rfl ?_
    refine vc_false rfl ?_
    refine vc_skip (n_block (n_then (wr ?_)))
    iterate 2 refine wN rfl rfl rfl (v47 rfl ?_)
    refine we rfl ?_
    refine hY0 ⟨i + 1, badC_succ hn (by simp_all [badC, letB]), hlt⟩ (by simp only; omega) _ _ _ ?_ rfl
    repeat' first | exact trivial | refine ⟨.inr rfl, ?_⟩ | refine ⟨.inl rfl, ?_⟩ | refine ⟨.inl ?_, ?_⟩ | fail
    all_goals first | exact (int_succ (by omega)).symm
  ·
   refine v47 rfl ?_
   iterate 4 refine wS (wanted_f 14 (by kernel_rfl) rfl) (v47 rfl ?_)
   iterate 2 refine wN rfl rfl rfl (v47 rfl ?_)
   refine we rfl (vs (wr ?_))
   iterate 3 refine wN rfl rfl rfl (v47 rfl ?_)
   iterate 3 refine wN (wanted_t 22 (by kernel_rfl) rfl) rfl rfl (v47 rfl ?_)
   refine w_split 25 rfl (fun hg25 => ?_) (fun hg25 => ?_)
   ·
    refine v47 rfl ?_
    iterate 4 refine wS (wanted_f 25 (by kernel_rfl) rfl) (v47 rfl ?_)
    iterate 2 refine wN (wanted_t 22 (by kernel_rfl) rfl) rfl rfl (v47 rfl ?_)
    iterate 4 refine wS (wanted_f 31 (by kernel_rfl) rfl) (v47 rfl ?_)
    refine wN (wanted_t 22 (by kernel_rfl) rfl) rfl rfl (v47 rfl ?_)
    refine wN rfl rfl rfl (v47 rfl ?_)
    refine we rfl ?_
    refine vc_true rfl ?_
    refine vs (wr ?_)
    refine wN rfl rfl rfl (v47 rfl ?_)
    refine we rfl (vc_ret (r_block (r_then (r_then (r_block (r_then (r_fn rfl ?_)))))))
    rw [name_bad hlt (by simp_all [badC, letB])]
    rfl
   ·
    refine v47 rfl ?_
    iterate 2 refine wN (wanted_t 25 (by kernel_rfl) rfl) rfl rfl (v47 rfl ?_)
    refine wN (v := .int .u8 (cAt s i)) (wanted_t 25 (by kernel_rfl) rfl) (g_cat Tryz.underlying9 hlt) rfl (v47 rfl ?_)
    refine wN (wanted_t 25 (by kernel_rfl) rfl) rfl rfl (v47 rfl ?_)
    iterate 2 refine wN (wanted_t 22 (by kernel_rfl) rfl) rfl rfl (v47 rfl ?_)
    refine w_split 31 rfl (fun hg31 => ?_) (fun hg31 => ?_)
    ·
     refine v47 rfl ?_
     iterate 4 refine wS (wanted_f 31 (by kernel_rfl) rfl) (v47 rfl ?_)
     refine wN (wanted_t 22 (by kernel_rfl) rfl) rfl rfl (v47 rfl ?_)
     refine wN rfl rfl rfl (v47 rfl ?_)
     refine we rfl ?_
     refine vc_true rfl ?_
     refine vs (wr ?_)
     refine wN rfl rfl rfl (v47 rfl ?_)
     refine we rfl (vc_ret (r_block (r_then (r_then (r_block (r_then (r_fn rfl ?_)))))))
     rw [name_bad hlt (by simp_all [badC, letB])]
     rfl
    ·
     refine v47 rfl ?_
     iterate 2 refine wN (wanted_t 31 (by kernel_rfl) rfl) rfl rfl (v47 rfl ?_)
     refine wN (v := .int .u8 (cAt s i)) (wanted_t 31 (by kernel_rfl) rfl) (g_cat Tryz.underlying9 hlt) rfl (v47 rfl ?_)
     refine wN (wanted_t 31 (by kernel_rfl) rfl) rfl rfl (v47 rfl ?_)
     refine wN (wanted_t 22 (by kernel_rfl) rfl) rfl rfl (v47 rfl ?_)
     refine wN rfl rfl rfl (v47 rfl ?_)
     refine we rfl ?_
     refine vc_cond rfl (fun hc37 => ?_) (fun hc37 => ?_)
     ·
      refine vs (wr ?_)
      refine wN rfl rfl rfl (v47 rfl ?_)
      refine we rfl (vc_ret (r_block (r_then (r_then (r_block (r_then (r_fn rfl ?_)))))))
      rw [name_bad hlt (by simp_all [badC, letB])]
      rfl
     ·
      refine vc_skip (n_block (n_then (wr ?_)))
      iterate 2 refine wN rfl rfl rfl (v47 rfl ?_)
      refine we rfl ?_
      refine hY0 ⟨i + 1, badC_succ hn (by simp_all [badC, letB]), hlt⟩ (by simp only; omega) _ _ _ ?_ rfl
      repeat' first | exact trivial | refine ⟨.inr rfl, ?_⟩ | refine ⟨.inl rfl, ?_⟩ | refine ⟨.inl ?_, ?_⟩ | fail
      all_goals first | exact (int_succ (by omega)).symm
 ·
  have hge : ¬ i < s.size := by simpa using hc8
  refine vc_exit (x_then (x_then (x_same (n_then (vs (wr ?_))))))
  iterate 4 refine wN rfl rfl rfl (v47 rfl ?_)
  refine w_split 42 rfl (fun hg42 => ?_) (fun hg42 => ?_)
  ·
   refine v47 rfl ?_
   iterate 3 refine wN (wanted_t 42 (by kernel_rfl) rfl) rfl rfl (v47 rfl ?_)
   iterate 2 refine wN rfl rfl rfl (v47 rfl ?_)
   refine we rfl (vc_ret (r_fn rfl ?_))
   rw [name_end hn (by omega)]
   have h1 : 1 ≤ s.size := by have := of_decide_eq_true hg42; omega
   rw [decide_eq_true h1, Bool.true_and]
   show some (AV.bool _) = some (AV.bool _)
   congr 2
   exact decide_eq_decide.2 (by omega)
  ·
   refine v47 rfl ?_
   iterate 3 refine wS (wanted_f 42 (by kernel_rfl) rfl) (v47 rfl ?_)
   iterate 2 refine wN rfl rfl rfl (v47 rfl ?_)
   refine we rfl (vc_ret (r_fn rfl ?_))
   rw [name_end hn (by omega)]
   have h1 : ¬ 1 ≤ s.size := by have := of_decide_eq_false hg42; omega
   rw [decide_eq_false h1]
   rfl
end Go.Vi
