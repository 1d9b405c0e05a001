/- Part of the proof of the tied card of CareTexts: names, fields, types. Conditions: none of its own. -/
import Derived.Test.YtenfndlbldffgaaGreatDoorVe
import Derived.Test.YtenfndlbldffgaaGreatDoorProg
set_option autoImplicit false
set_option linter.unusedVariables false
set_option linter.unusedSimpArgs false
set_option maxRecDepth 100000
namespace Go.Vi
open Go Go.Vi Go.Proofs
attribute [local irreducible] vops vopsD vc
theorem g_str {P : Program} {H : Hp} {t : TypeId} {s : ByteArray} {k : IntKind} {n : Int} {b : UInt8} (hu : P.underlying t = some .string) (h0 : 0 ≤ n) (hb : s[n.toNat]? = some b) : (vindex P t (.str s) (.int k n)).map (·, H) = some (.int .u8 b.toNat, H) := by
 simp [vindex, hu, h0, hb]
def nameByte (i : Nat) (c : UInt8) : Bool := (decide (c.toNat ≥ 65) && decide (c.toNat ≤ 90)) || (decide (i ≠ 0) && decide (c.toNat ≥ 48) && decide (c.toNat ≤ 57))
def nameAt (s : ByteArray) (i : Nat) : Bool := match s[i]? with
 | some c => nameByte i c
 | none => false
def isName (s : ByteArray) : Bool := (List.range s.size).all (nameAt s) && decide (1 ≤ s.size) && decide (s.size ≤ 8)
theorem nb_t {i : Nat} {c : UInt8} (h : (65 ≤ c.toNat ∧ c.toNat ≤ 90) ∨ (i ≠ 0 ∧ 48 ≤ c.toNat ∧ c.toNat ≤ 57)) : nameByte i c = true := by
 simp [nameByte]; omega
theorem nb_f {i : Nat} {c : UInt8} (h : ¬ ((65 ≤ c.toNat ∧ c.toNat ≤ 90) ∨ (i ≠ 0 ∧ 48 ≤ c.toNat ∧ c.toNat ≤ 57))) : nameByte i c = false := by
 rw [Bool.eq_false_iff]; simp [nameByte]; omega
theorem name_no {s : ByteArray} {i : Nat} {c : UInt8} (hc : s[i]? = some c) (h : nameByte i c = false) : isName s = false := by
 have hlt : i < s.size := (getElem?_eq_some_iff.1 hc).1
 have : (List.range s.size).all (nameAt s) = false := by
  rw [List.all_eq_false]
  exact ⟨i, List.mem_range.2 hlt, by simp [nameAt, hc, h]⟩
 simp [isName, this]
theorem name_all {s : ByteArray} {i : Nat} (h : ∀ j, j < i → nameAt s j = true) (hi : s.size ≤ i) : isName s = (decide (1 ≤ s.size) && decide (s.size ≤ 8)) := by
 have : (List.range s.size).all (nameAt s) = true := List.all_eq_true.2 fun j hj => h j (by have := List.mem_range.1 hj; omega)
 simp [isName, this]
theorem name_succ {s : ByteArray} {i : Nat} {c : UInt8} (h : ∀ j, j < i → nameAt s j = true) (hc : s[i]? = some c) (hb : nameByte i c = true) : ∀ j, j < i + 1 → nameAt s j = true := by
 intro j hj
 by_cases he : j = i
 · subst he; simp [nameAt, hc, hb]
 · exact h j (by omega)
theorem zName (G : Glob) (s : ByteArray) (hlen : s.size < 9223372036854775808) : Vi.Fn Tryz.prog G 76 [.str s] (.bool (isName s)) := by
 refine fn_body (fun _ => .iso) Tryz.func76 rfl ?_
 refine vc_norm (env' := (_ :: _ :: _ :: _ :: _ :: _ :: _ :: _ :: _ :: _ :: _ :: _ :: _ :: _ :: _ :: _ :: _ :: _ :: _ :: _ :: _ :: _ :: _ :: _ :: _ :: _ :: _ :: _ :: _ :: _ :: _ :: _ :: _ :: _ :: _ :: _ :: _ :: _ :: _ :: _ :: _ :: _ :: _ :: _ :: _ :: _ :: _ :: [])) (H' := []) rfl rfl ?_
 refine vs (wr ?_)
 refine wN rfl rfl rfl (v47 rfl ?_)
 refine we rfl (vs (vs (wr ?_)))
 iterate 3 refine wN rfl rfl rfl (v47 rfl ?_)
 refine we rfl (vc_block ?_)
 refine vc_loopU (α := { i : Nat // (∀ j, j < i → nameAt s j = true) ∧ i ≤ s.size }) (fun i => ([none, none, some .undef, some .undef, some .undef, none, none, some (.int .i64 (i.1 : Nat))] ++ (rundef 31 ++ (rnone 8)))) (fun i => s.size - i.1) ⟨0, fun j h => by omega, by omega⟩ (by repeat' first | exact trivial | refine ⟨.inr rfl, ?_⟩ | refine ⟨.inl rfl, ?_⟩ | fail) (fun _ => ⟨Nat.zero_le _, (by repeat' first | exact trivial | exact IsL.belowV ‹_› | refine ⟨?_, ?_⟩ | exact IsL.below ‹_› | (simp [valB, leafB, cellsB, IsL.below, *]; done) | (simp [valB, leafB, cellsB, IsL.below, *]; omega) | fail), (by repeat' first | exact trivial | exact IsL.below (by assumption) | refine ⟨?_, ?_⟩ | (simp [leafB]; done))⟩) ?_
 rintro ⟨i, hn, hi⟩ Y0 hY0
 refine vc_norm (env' := (_ :: _ :: _ :: _ :: _ :: _ :: _ :: (.int .i64 (i : Int)) :: _ :: _ :: _ :: _ :: _ :: _ :: _ :: _ :: _ :: _ :: _ :: _ :: _ :: _ :: _ :: _ :: _ :: _ :: _ :: _ :: _ :: _ :: _ :: _ :: _ :: _ :: _ :: _ :: _ :: _ :: _ :: _ :: _ :: _ :: _ :: _ :: _ :: _ :: _ :: [])) (H' := []) rfl rfl ?_
 refine vs (wr ?_)
 refine wN rfl rfl rfl (v47 rfl ?_)
 refine we rfl (vs ?_)
 refine vc_cond rfl (fun hc8 => ?_) (fun hc8 => ?_)
 ·
  have hlt : i < s.size := by simpa using hc8
  obtain ⟨c, hc⟩ : ∃ c, s[i]? = some c := ⟨s[i], getElem?_pos s i hlt⟩
  refine vc_skip (n_then (vs (vc_block (vs (wr ?_)))))
  iterate 2 refine wN rfl rfl rfl (v47 rfl ?_)
  refine we rfl (vs (wr ?_))
  iterate 2 refine wN rfl rfl rfl (v47 rfl ?_)
  refine wN (v := .int .u8 (c.toNat : Nat)) rfl (g_str Tryz.underlying9 (by omega) hc) rfl (v47 rfl ?_)
  iterate 2 refine wN rfl rfl rfl (v47 rfl ?_)
  refine w_split 14 rfl (fun hg14 => ?_) (fun hg14 => ?_)
  ·
   refine v47 rfl ?_
   iterate 2 refine wN (wanted_t 14 (by kernel_rfl) rfl) rfl rfl (v47 rfl ?_)
   refine wN (v := .int .u8 (c.toNat : Nat)) (wanted_t 14 (by kernel_rfl) rfl) (g_str Tryz.underlying9 (by omega) hc) rfl (v47 rfl ?_)
   refine wN (wanted_t 14 (by kernel_rfl) rfl) rfl rfl (v47 rfl ?_)
   iterate 2 refine wN rfl rfl rfl (v47 rfl ?_)
   refine we rfl (vs (wr ?_))
   iterate 3 refine wN rfl rfl rfl (v47 rfl ?_)
   refine w_split 22 rfl (fun hg22 => ?_) (fun hg22 => ?_)
   ·
    refine v47 rfl ?_
    iterate 3 refine wN (wanted_t 22 (by kernel_rfl) rfl) rfl rfl (v47 rfl ?_)
    refine w_split 25 rfl (fun hg25 => ?_) (fun hg25 => ?_)
    ·
     refine v47 rfl ?_
     iterate 4 refine wS (wanted_f 25 (by kernel_rfl) rfl) (v47 rfl ?_)
     iterate 2 refine wN (wanted_t 22 (by kernel_rfl) rfl) rfl rfl (v47 rfl ?_)
     iterate 4 refine wS (wanted_f 31 (by kernel_rfl) rfl) (v47 rfl ?_)
     refine wN (wanted_t 22 (by kernel_rfl) rfl) rfl rfl (v47 rfl ?_)
     refine wN rfl rfl rfl (v47 rfl ?_)
     refine we rfl ?_
     refine vc_true rfl ?_
     refine vs (wr ?_)
     refine wN rfl rfl rfl (v47 rfl ?_)
     refine we rfl (vc_ret (r_block (r_then (r_then (r_block (r_then (r_fn rfl ?_)))))))
     have hb : nameByte i c = false := nb_f (by have := of_decide_eq_true hg14; simp at hg22; simp at hg25; omega)
     show some (AV.bool false) = some (AV.bool _)
     rw [name_no hc hb]
    ·
     refine v47 rfl ?_
     iterate 2 refine wN (wanted_t 25 (by kernel_rfl) rfl) rfl rfl (v47 rfl ?_)
     refine wN (v := .int .u8 (c.toNat : Nat)) (wanted_t 25 (by kernel_rfl) rfl) (g_str Tryz.underlying9 (by omega) hc) rfl (v47 rfl ?_)
     refine wN (wanted_t 25 (by kernel_rfl) rfl) rfl rfl (v47 rfl ?_)
     iterate 2 refine wN (wanted_t 22 (by kernel_rfl) rfl) rfl rfl (v47 rfl ?_)
     refine w_split 31 rfl (fun hg31 => ?_) (fun hg31 => ?_)
     ·
      refine v47 rfl ?_
      iterate 4 refine wS (wanted_f 31 (by kernel_rfl) rfl) (v47 rfl ?_)
      refine wN (wanted_t 22 (by kernel_rfl) rfl) rfl rfl (v47 rfl ?_)
      refine wN rfl rfl rfl (v47 rfl ?_)
      refine we rfl ?_
      refine vc_true rfl ?_
      refine vs (wr ?_)
      refine wN rfl rfl rfl (v47 rfl ?_)
      refine we rfl (vc_ret (r_block (r_then (r_then (r_block (r_then (r_fn rfl ?_)))))))
      have hb : nameByte i c = false := nb_f (by have := of_decide_eq_true hg14; simp at hg22; simp at hg25; have := of_decide_eq_true hg31; omega)
      show some (AV.bool false) = some (AV.bool _)
      rw [name_no hc hb]
     ·
      refine v47 rfl ?_
      iterate 2 refine wN (wanted_t 31 (by kernel_rfl) rfl) rfl rfl (v47 rfl ?_)
      refine wN (v := .int .u8 (c.toNat : Nat)) (wanted_t 31 (by kernel_rfl) rfl) (g_str Tryz.underlying9 (by omega) hc) rfl (v47 rfl ?_)
      refine wN (wanted_t 31 (by kernel_rfl) rfl) rfl rfl (v47 rfl ?_)
      refine wN (wanted_t 22 (by kernel_rfl) rfl) rfl rfl (v47 rfl ?_)
      refine wN rfl rfl rfl (v47 rfl ?_)
      refine we rfl ?_
      refine vc_cond rfl (fun hc37 => ?_) (fun hc37 => ?_)
      ·
       refine vs (wr ?_)
       refine wN rfl rfl rfl (v47 rfl ?_)
       refine we rfl (vc_ret (r_block (r_then (r_then (r_block (r_then (r_fn rfl ?_)))))))
       have hb : nameByte i c = false := nb_f (by have := of_decide_eq_true hg14; simp at hg22; simp at hg25; have := of_decide_eq_false hg31; have := of_decide_eq_true hc37; omega)
       show some (AV.bool false) = some (AV.bool _)
       rw [name_no hc hb]
      ·
       refine vc_skip (n_block (n_then (wr ?_)))
       iterate 2 refine wN rfl rfl rfl (v47 rfl ?_)
       refine we rfl ?_
       refine hY0 ⟨i + 1, name_succ hn hc (nb_t (by have := of_decide_eq_true hg14; simp at hg22; simp at hg25; have := of_decide_eq_false hg31; have := of_decide_eq_false hc37; omega)), hlt⟩ (by simp only; omega) _ _ _ ?_ rfl
       repeat' first | exact trivial | refine ⟨.inr rfl, ?_⟩ | refine ⟨.inl rfl, ?_⟩ | refine ⟨.inl ?_, ?_⟩ | fail
       all_goals first | exact (int_succ (by omega)).symm
   ·
    refine v47 rfl ?_
    iterate 3 refine wS (wanted_f 22 (by kernel_rfl) rfl) (v47 rfl ?_)
    iterate 4 refine wS (wanted_k 25 (by kernel_rfl) rfl) (v47 rfl ?_)
    iterate 2 refine wS (wanted_f 22 (by kernel_rfl) rfl) (v47 rfl ?_)
    iterate 4 refine wS (wanted_k 31 (by kernel_rfl) rfl) (v47 rfl ?_)
    refine wS (wanted_f 22 (by kernel_rfl) rfl) (v47 rfl ?_)
    refine wN rfl rfl rfl (v47 rfl ?_)
    refine we rfl ?_
    refine vc_false rfl ?_
    refine vc_skip (n_block (n_then (wr ?_)))
    iterate 2 refine wN rfl rfl rfl (v47 rfl ?_)
    refine we rfl ?_
    refine hY0 ⟨i + 1, name_succ hn hc (nb_t (by have := of_decide_eq_true hg14; simp at hg22; omega)), hlt⟩ (by simp only; omega) _ _ _ ?_ rfl
    repeat' first | exact trivial | refine ⟨.inr rfl, ?_⟩ | refine ⟨.inl rfl, ?_⟩ | refine ⟨.inl ?_, ?_⟩ | fail
    all_goals first | exact (int_succ (by omega)).symm
  ·
   refine v47 rfl ?_
   iterate 4 refine wS (wanted_f 14 (by kernel_rfl) rfl) (v47 rfl ?_)
   iterate 2 refine wN rfl rfl rfl (v47 rfl ?_)
   refine we rfl (vs (wr ?_))
   iterate 3 refine wN rfl rfl rfl (v47 rfl ?_)
   iterate 3 refine wN (wanted_t 22 (by kernel_rfl) rfl) rfl rfl (v47 rfl ?_)
   refine w_split 25 rfl (fun hg25 => ?_) (fun hg25 => ?_)
   ·
    refine v47 rfl ?_
    iterate 4 refine wS (wanted_f 25 (by kernel_rfl) rfl) (v47 rfl ?_)
    iterate 2 refine wN (wanted_t 22 (by kernel_rfl) rfl) rfl rfl (v47 rfl ?_)
    iterate 4 refine wS (wanted_f 31 (by kernel_rfl) rfl) (v47 rfl ?_)
    refine wN (wanted_t 22 (by kernel_rfl) rfl) rfl rfl (v47 rfl ?_)
    refine wN rfl rfl rfl (v47 rfl ?_)
    refine we rfl ?_
    refine vc_true rfl ?_
    refine vs (wr ?_)
    refine wN rfl rfl rfl (v47 rfl ?_)
    refine we rfl (vc_ret (r_block (r_then (r_then (r_block (r_then (r_fn rfl ?_)))))))
    have hb : nameByte i c = false := nb_f (by have := of_decide_eq_false hg14; simp at hg25; omega)
    show some (AV.bool false) = some (AV.bool _)
    rw [name_no hc hb]
   ·
    refine v47 rfl ?_
    iterate 2 refine wN (wanted_t 25 (by kernel_rfl) rfl) rfl rfl (v47 rfl ?_)
    refine wN (v := .int .u8 (c.toNat : Nat)) (wanted_t 25 (by kernel_rfl) rfl) (g_str Tryz.underlying9 (by omega) hc) rfl (v47 rfl ?_)
    refine wN (wanted_t 25 (by kernel_rfl) rfl) rfl rfl (v47 rfl ?_)
    iterate 2 refine wN (wanted_t 22 (by kernel_rfl) rfl) rfl rfl (v47 rfl ?_)
    refine w_split 31 rfl (fun hg31 => ?_) (fun hg31 => ?_)
    ·
     refine v47 rfl ?_
     iterate 4 refine wS (wanted_f 31 (by kernel_rfl) rfl) (v47 rfl ?_)
     refine wN (wanted_t 22 (by kernel_rfl) rfl) rfl rfl (v47 rfl ?_)
     refine wN rfl rfl rfl (v47 rfl ?_)
     refine we rfl ?_
     refine vc_true rfl ?_
     refine vs (wr ?_)
     refine wN rfl rfl rfl (v47 rfl ?_)
     refine we rfl (vc_ret (r_block (r_then (r_then (r_block (r_then (r_fn rfl ?_)))))))
     have hb : nameByte i c = false := nb_f (by have := of_decide_eq_false hg14; simp at hg25; have := of_decide_eq_true hg31; omega)
     show some (AV.bool false) = some (AV.bool _)
     rw [name_no hc hb]
    ·
     refine v47 rfl ?_
     iterate 2 refine wN (wanted_t 31 (by kernel_rfl) rfl) rfl rfl (v47 rfl ?_)
     refine wN (v := .int .u8 (c.toNat : Nat)) (wanted_t 31 (by kernel_rfl) rfl) (g_str Tryz.underlying9 (by omega) hc) rfl (v47 rfl ?_)
     refine wN (wanted_t 31 (by kernel_rfl) rfl) rfl rfl (v47 rfl ?_)
     refine wN (wanted_t 22 (by kernel_rfl) rfl) rfl rfl (v47 rfl ?_)
     refine wN rfl rfl rfl (v47 rfl ?_)
     refine we rfl ?_
     refine vc_cond rfl (fun hc37 => ?_) (fun hc37 => ?_)
     ·
      refine vs (wr ?_)
      refine wN rfl rfl rfl (v47 rfl ?_)
      refine we rfl (vc_ret (r_block (r_then (r_then (r_block (r_then (r_fn rfl ?_)))))))
      have hb : nameByte i c = false := nb_f (by have := of_decide_eq_false hg14; simp at hg25; have := of_decide_eq_false hg31; have := of_decide_eq_true hc37; omega)
      show some (AV.bool false) = some (AV.bool _)
      rw [name_no hc hb]
     ·
      refine vc_skip (n_block (n_then (wr ?_)))
      iterate 2 refine wN rfl rfl rfl (v47 rfl ?_)
      refine we rfl ?_
      refine hY0 ⟨i + 1, name_succ hn hc (nb_t (by have := of_decide_eq_false hg14; simp at hg25; have := of_decide_eq_false hg31; have := of_decide_eq_false hc37; omega)), hlt⟩ (by simp only; omega) _ _ _ ?_ rfl
      repeat' first | exact trivial | refine ⟨.inr rfl, ?_⟩ | refine ⟨.inl rfl, ?_⟩ | refine ⟨.inl ?_, ?_⟩ | fail
      all_goals first | exact (int_succ (by omega)).symm
 ·
  have hge : ¬ i < s.size := by simpa using hc8
  refine vc_exit (x_then (x_then (x_same (n_then (vs (wr ?_))))))
  iterate 4 refine wN rfl rfl rfl (v47 rfl ?_)
  refine w_split 42 rfl (fun hg42 => ?_) (fun hg42 => ?_)
  ·
   refine v47 rfl ?_
   iterate 3 refine wN (wanted_t 42 (by kernel_rfl) rfl) rfl rfl (v47 rfl ?_)
   iterate 2 refine wN rfl rfl rfl (v47 rfl ?_)
   refine we rfl (vc_ret (r_fn rfl ?_))
   show some (AV.bool _) = some (AV.bool _)
   rw [name_all hn (by omega), decide_eq_true (show 1 ≤ s.size by have := of_decide_eq_true hg42; omega), Bool.true_and]
   exact congrArg (fun z => some (AV.bool z)) (decide_eq_decide.2 (by omega))
  ·
   refine v47 rfl ?_
   iterate 3 refine wS (wanted_f 42 (by kernel_rfl) rfl) (v47 rfl ?_)
   iterate 2 refine wN rfl rfl rfl (v47 rfl ?_)
   refine we rfl (vc_ret (r_fn rfl ?_))
   show some (AV.bool false) = some (AV.bool _)
   rw [name_all hn (by omega), decide_eq_false (show ¬ 1 ≤ s.size by have := of_decide_eq_false hg42; omega)]
   rfl
theorem zNameR (G : Glob) (s : ByteArray) (hlen : s.size < 9223372036854775808) : Vi.Fn Tryz.prog G 86 [.str s] (.bool (isName s)) := by
 refine fn_body (fun _ => .iso) Tryz.func86 rfl ?_
 refine vc_norm (env' := (_ :: _ :: _ :: _ :: _ :: _ :: _ :: _ :: _ :: _ :: _ :: _ :: _ :: _ :: _ :: _ :: _ :: _ :: _ :: _ :: _ :: _ :: _ :: _ :: _ :: _ :: _ :: _ :: _ :: _ :: _ :: _ :: _ :: _ :: _ :: _ :: _ :: _ :: _ :: _ :: _ :: _ :: _ :: _ :: _ :: _ :: _ :: [])) (H' := []) rfl rfl ?_
 refine vs (wr ?_)
 refine wN rfl rfl rfl (v47 rfl ?_)
 refine we rfl (vs (vs (wr ?_)))
 refine wN rfl rfl rfl (v47 rfl ?_)
 refine we rfl (vc_block ?_)
 refine vc_loopU (α := { i : Nat // (∀ j, j < i → nameAt s j = true) ∧ i ≤ s.size }) (fun i => ([none, none, some .undef, some (.int .i64 (i.1 : Nat))] ++ (rundef 35 ++ (rnone 8)))) (fun i => s.size - i.1) ⟨0, fun j h => by omega, by omega⟩ (by repeat' first | exact trivial | refine ⟨.inr rfl, ?_⟩ | refine ⟨.inl rfl, ?_⟩ | fail) (fun _ => ⟨Nat.zero_le _, (by repeat' first | exact trivial | exact IsL.belowV ‹_› | refine ⟨?_, ?_⟩ | exact IsL.below ‹_› | (simp [valB, leafB, cellsB, IsL.below, *]; done) | (simp [valB, leafB, cellsB, IsL.below, *]; omega) | fail), (by repeat' first | exact trivial | exact IsL.below (by assumption) | refine ⟨?_, ?_⟩ | (simp [leafB]; done))⟩) ?_
 rintro ⟨i, hn, hi⟩ Y0 hY0
 refine vc_norm (env' := (_ :: _ :: _ :: (.int .i64 (i : Int)) :: _ :: _ :: _ :: _ :: _ :: _ :: _ :: _ :: _ :: _ :: _ :: _ :: _ :: _ :: _ :: _ :: _ :: _ :: _ :: _ :: _ :: _ :: _ :: _ :: _ :: _ :: _ :: _ :: _ :: _ :: _ :: _ :: _ :: _ :: _ :: _ :: _ :: _ :: _ :: _ :: _ :: _ :: _ :: [])) (H' := []) rfl rfl ?_
 refine vs (vs (wr ?_))
 iterate 4 refine wN rfl rfl rfl (v47 rfl ?_)
 refine we rfl ?_
 refine vc_cond rfl (fun hc8 => ?_) (fun hc8 => ?_)
 ·
  have hlt : i < s.size := by simpa using hc8
  obtain ⟨c, hc⟩ : ∃ c, s[i]? = some c := ⟨s[i], getElem?_pos s i hlt⟩
  refine vc_skip (n_then (vs (vc_block (vs (wr ?_)))))
  iterate 2 refine wN rfl rfl rfl (v47 rfl ?_)
  refine wN (v := .int .u8 (c.toNat : Nat)) rfl (g_str Tryz.underlying9 (by omega) hc) rfl (v47 rfl ?_)
  iterate 2 refine wN rfl rfl rfl (v47 rfl ?_)
  refine w_split 15 rfl (fun hg15 => ?_) (fun hg15 => ?_)
  ·
   refine v47 rfl ?_
   iterate 2 refine wN (wanted_t 15 (by kernel_rfl) rfl) rfl rfl (v47 rfl ?_)
   refine wN (v := .int .u8 (c.toNat : Nat)) (wanted_t 15 (by kernel_rfl) rfl) (g_str Tryz.underlying9 (by omega) hc) rfl (v47 rfl ?_)
   refine wN (wanted_t 15 (by kernel_rfl) rfl) rfl rfl (v47 rfl ?_)
   iterate 2 refine wN rfl rfl rfl (v47 rfl ?_)
   refine we rfl (vs (wr ?_))
   iterate 3 refine wN rfl rfl rfl (v47 rfl ?_)
   refine w_split 23 rfl (fun hg23 => ?_) (fun hg23 => ?_)
   ·
    refine v47 rfl ?_
    iterate 3 refine wN (wanted_t 23 (by kernel_rfl) rfl) rfl rfl (v47 rfl ?_)
    refine w_split 26 rfl (fun hg26 => ?_) (fun hg26 => ?_)
    ·
     refine v47 rfl ?_
     iterate 4 refine wS (wanted_f 26 (by kernel_rfl) rfl) (v47 rfl ?_)
     iterate 2 refine wN (wanted_t 23 (by kernel_rfl) rfl) rfl rfl (v47 rfl ?_)
     iterate 4 refine wS (wanted_f 32 (by kernel_rfl) rfl) (v47 rfl ?_)
     refine wN (wanted_t 23 (by kernel_rfl) rfl) rfl rfl (v47 rfl ?_)
     refine wN rfl rfl rfl (v47 rfl ?_)
     refine we rfl ?_
     refine vc_true rfl ?_
     refine vs (wr ?_)
     refine wN rfl rfl rfl (v47 rfl ?_)
     refine we rfl (vc_ret (r_block (r_then (r_then (r_block (r_then (r_fn rfl ?_)))))))
     have hb : nameByte i c = false := nb_f (by have := of_decide_eq_true hg15; simp at hg23; simp at hg26; omega)
     show some (AV.bool false) = some (AV.bool _)
     rw [name_no hc hb]
    ·
     refine v47 rfl ?_
     iterate 2 refine wN (wanted_t 26 (by kernel_rfl) rfl) rfl rfl (v47 rfl ?_)
     refine wN (v := .int .u8 (c.toNat : Nat)) (wanted_t 26 (by kernel_rfl) rfl) (g_str Tryz.underlying9 (by omega) hc) rfl (v47 rfl ?_)
     refine wN (wanted_t 26 (by kernel_rfl) rfl) rfl rfl (v47 rfl ?_)
     iterate 2 refine wN (wanted_t 23 (by kernel_rfl) rfl) rfl rfl (v47 rfl ?_)
     refine w_split 32 rfl (fun hg32 => ?_) (fun hg32 => ?_)
     ·
      refine v47 rfl ?_
      iterate 4 refine wS (wanted_f 32 (by kernel_rfl) rfl) (v47 rfl ?_)
      refine wN (wanted_t 23 (by kernel_rfl) rfl) rfl rfl (v47 rfl ?_)
      refine wN rfl rfl rfl (v47 rfl ?_)
      refine we rfl ?_
      refine vc_true rfl ?_
      refine vs (wr ?_)
      refine wN rfl rfl rfl (v47 rfl ?_)
      refine we rfl (vc_ret (r_block (r_then (r_then (r_block (r_then (r_fn rfl ?_)))))))
      have hb : nameByte i c = false := nb_f (by have := of_decide_eq_true hg15; simp at hg23; simp at hg26; have := of_decide_eq_true hg32; omega)
      show some (AV.bool false) = some (AV.bool _)
      rw [name_no hc hb]
     ·
      refine v47 rfl ?_
      iterate 2 refine wN (wanted_t 32 (by kernel_rfl) rfl) rfl rfl (v47 rfl ?_)
      refine wN (v := .int .u8 (c.toNat : Nat)) (wanted_t 32 (by kernel_rfl) rfl) (g_str Tryz.underlying9 (by omega) hc) rfl (v47 rfl ?_)
      refine wN (wanted_t 32 (by kernel_rfl) rfl) rfl rfl (v47 rfl ?_)
      refine wN (wanted_t 23 (by kernel_rfl) rfl) rfl rfl (v47 rfl ?_)
      refine wN rfl rfl rfl (v47 rfl ?_)
      refine we rfl ?_
      refine vc_cond rfl (fun hc38 => ?_) (fun hc38 => ?_)
      ·
       refine vs (wr ?_)
       refine wN rfl rfl rfl (v47 rfl ?_)
       refine we rfl (vc_ret (r_block (r_then (r_then (r_block (r_then (r_fn rfl ?_)))))))
       have hb : nameByte i c = false := nb_f (by have := of_decide_eq_true hg15; simp at hg23; simp at hg26; have := of_decide_eq_false hg32; have := of_decide_eq_true hc38; omega)
       show some (AV.bool false) = some (AV.bool _)
       rw [name_no hc hb]
      ·
       refine vc_skip (n_block (n_then (wr ?_)))
       iterate 3 refine wN rfl rfl rfl (v47 rfl ?_)
       refine we rfl ?_
       refine hY0 ⟨i + 1, name_succ hn hc (nb_t (by have := of_decide_eq_true hg15; simp at hg23; simp at hg26; have := of_decide_eq_false hg32; have := of_decide_eq_false hc38; omega)), hlt⟩ (by simp only; omega) _ _ _ ?_ rfl
       repeat' first | exact trivial | refine ⟨.inr rfl, ?_⟩ | refine ⟨.inl rfl, ?_⟩ | refine ⟨.inl ?_, ?_⟩ | fail
       all_goals first | exact (int_succ (by omega)).symm
   ·
    refine v47 rfl ?_
    iterate 3 refine wS (wanted_f 23 (by kernel_rfl) rfl) (v47 rfl ?_)
    iterate 4 refine wS (wanted_k 26 (by kernel_rfl) rfl) (v47 rfl ?_)
    iterate 2 refine wS (wanted_f 23 (by kernel_rfl) rfl) (v47 rfl ?_)
    iterate 4 refine wS (wanted_k 32 (by kernel_rfl) rfl) (v47 rfl ?_)
    refine wS (wanted_f 23 (by kernel_rfl) rfl) (v47 rfl ?_)
    refine wN rfl rfl rfl (v47 rfl ?_)
    refine we rfl ?_
    refine vc_false rfl ?_
    refine vc_skip (n_block (n_then (wr ?_)))
    iterate 3 refine wN rfl rfl rfl (v47 rfl ?_)
    refine we rfl ?_
    refine hY0 ⟨i + 1, name_succ hn hc (nb_t (by have := of_decide_eq_true hg15; simp at hg23; omega)), hlt⟩ (by simp only; omega) _ _ _ ?_ rfl
    repeat' first | exact trivial | refine ⟨.inr rfl, ?_⟩ | refine ⟨.inl rfl, ?_⟩ | refine ⟨.inl ?_, ?_⟩ | fail
    all_goals first | exact (int_succ (by omega)).symm
  ·
   refine v47 rfl ?_
   iterate 4 refine wS (wanted_f 15 (by kernel_rfl) rfl) (v47 rfl ?_)
   iterate 2 refine wN rfl rfl rfl (v47 rfl ?_)
   refine we rfl (vs (wr ?_))
   iterate 3 refine wN rfl rfl rfl (v47 rfl ?_)
   iterate 3 refine wN (wanted_t 23 (by kernel_rfl) rfl) rfl rfl (v47 rfl ?_)
   refine w_split 26 rfl (fun hg26 => ?_) (fun hg26 => ?_)
   ·
    refine v47 rfl ?_
    iterate 4 refine wS (wanted_f 26 (by kernel_rfl) rfl) (v47 rfl ?_)
    iterate 2 refine wN (wanted_t 23 (by kernel_rfl) rfl) rfl rfl (v47 rfl ?_)
    iterate 4 refine wS (wanted_f 32 (by kernel_rfl) rfl) (v47 rfl ?_)
    refine wN (wanted_t 23 (by kernel_rfl) rfl) rfl rfl (v47 rfl ?_)
    refine wN rfl rfl rfl (v47 rfl ?_)
    refine we rfl ?_
    refine vc_true rfl ?_
    refine vs (wr ?_)
    refine wN rfl rfl rfl (v47 rfl ?_)
    refine we rfl (vc_ret (r_block (r_then (r_then (r_block (r_then (r_fn rfl ?_)))))))
    have hb : nameByte i c = false := nb_f (by have := of_decide_eq_false hg15; simp at hg26; omega)
    show some (AV.bool false) = some (AV.bool _)
    rw [name_no hc hb]
   ·
    refine v47 rfl ?_
    iterate 2 refine wN (wanted_t 26 (by kernel_rfl) rfl) rfl rfl (v47 rfl ?_)
    refine wN (v := .int .u8 (c.toNat : Nat)) (wanted_t 26 (by kernel_rfl) rfl) (g_str Tryz.underlying9 (by omega) hc) rfl (v47 rfl ?_)
    refine wN (wanted_t 26 (by kernel_rfl) rfl) rfl rfl (v47 rfl ?_)
    iterate 2 refine wN (wanted_t 23 (by kernel_rfl) rfl) rfl rfl (v47 rfl ?_)
    refine w_split 32 rfl (fun hg32 => ?_) (fun hg32 => ?_)
    ·
     refine v47 rfl ?_
     iterate 4 refine wS (wanted_f 32 (by kernel_rfl) rfl) (v47 rfl ?_)
     refine wN (wanted_t 23 (by kernel_rfl) rfl) rfl rfl (v47 rfl ?_)
     refine wN rfl rfl rfl (v47 rfl ?_)
     refine we rfl ?_
     refine vc_true rfl ?_
     refine vs (wr ?_)
     refine wN rfl rfl rfl (v47 rfl ?_)
     refine we rfl (vc_ret (r_block (r_then (r_then (r_block (r_then (r_fn rfl ?_)))))))
     have hb : nameByte i c = false := nb_f (by have := of_decide_eq_false hg15; simp at hg26; have := of_decide_eq_true hg32; omega)
     show some (AV.bool false) = some (AV.bool _)
     rw [name_no hc hb]
    ·
     refine v47 rfl ?_
     iterate 2 refine wN (wanted_t 32 (by kernel_rfl) rfl) rfl rfl (v47 rfl ?_)
     refine wN (v := .int .u8 (c.toNat : Nat)) (wanted_t 32 (by kernel_rfl) rfl) (g_str Tryz.underlying9 (by omega) hc) rfl (v47 rfl ?_)
     refine wN (wanted_t 32 (by kernel_rfl) rfl) rfl rfl (v47 rfl ?_)
     refine wN (wanted_t 23 (by kernel_rfl) rfl) rfl rfl (v47 rfl ?_)
     refine wN rfl rfl rfl (v47 rfl ?_)
     refine we rfl ?_
     refine vc_cond rfl (fun hc38 => ?_) (fun hc38 => ?_)
     ·
      refine vs (wr ?_)
      refine wN rfl rfl rfl (v47 rfl ?_)
      refine we rfl (vc_ret (r_block (r_then (r_then (r_block (r_then (r_fn rfl ?_)))))))
      have hb : nameByte i c = false := nb_f (by have := of_decide_eq_false hg15; simp at hg26; have := of_decide_eq_false hg32; have := of_decide_eq_true hc38; omega)
      show some (AV.bool false) = some (AV.bool _)
      rw [name_no hc hb]
     ·
      refine vc_skip (n_block (n_then (wr ?_)))
      iterate 3 refine wN rfl rfl rfl (v47 rfl ?_)
      refine we rfl ?_
      refine hY0 ⟨i + 1, name_succ hn hc (nb_t (by have := of_decide_eq_false hg15; simp at hg26; have := of_decide_eq_false hg32; have := of_decide_eq_false hc38; omega)), hlt⟩ (by simp only; omega) _ _ _ ?_ rfl
      repeat' first | exact trivial | refine ⟨.inr rfl, ?_⟩ | refine ⟨.inl rfl, ?_⟩ | refine ⟨.inl ?_, ?_⟩ | fail
      all_goals first | exact (int_succ (by omega)).symm
 ·
  have hge : ¬ i < s.size := by simpa using hc8
  refine vc_exit (x_then (x_then (x_same (n_then (vs (wr ?_))))))
  iterate 4 refine wN rfl rfl rfl (v47 rfl ?_)
  refine w_split 42 rfl (fun hg42 => ?_) (fun hg42 => ?_)
  ·
   refine v47 rfl ?_
   iterate 3 refine wN (wanted_t 42 (by kernel_rfl) rfl) rfl rfl (v47 rfl ?_)
   iterate 2 refine wN rfl rfl rfl (v47 rfl ?_)
   refine we rfl (vc_ret (r_fn rfl ?_))
   show some (AV.bool _) = some (AV.bool _)
   rw [name_all hn (by omega), decide_eq_true (show 1 ≤ s.size by have := of_decide_eq_true hg42; omega), Bool.true_and]
   exact congrArg (fun z => some (AV.bool z)) (decide_eq_decide.2 (by omega))
  ·
   refine v47 rfl ?_
   iterate 3 refine wS (wanted_f 42 (by kernel_rfl) rfl) (v47 rfl ?_)
   iterate 2 refine wN rfl rfl rfl (v47 rfl ?_)
   refine we rfl (vc_ret (r_fn rfl ?_))
   show some (AV.bool false) = some (AV.bool _)
   rw [name_all hn (by omega), decide_eq_false (show ¬ 1 ≤ s.size by have := of_decide_eq_false hg42; omega)]
   rfl
end Go.Vi
namespace Go.Vi
open Go Go.Vi Go.Proofs
attribute [local irreducible] vops vopsD vc
theorem el60 : elemAt Tryz.prog 60 = some (none, 117, 3) := by kernel_rfl
theorem sz117 : szOf Tryz.prog 117 = some 3 := by kernel_rfl
structure PF where
 name : ByteArray
 at_ : Int
 bytes : Int
def encF (f : PF) : List AV := [.str f.name, .int .i64 f.at_, .int .i64 f.bytes]
structure FieldsIs (x : AV) (fs : List PF) : Prop where
 isL : IsL x
 rows : lrows x = fs.map encF
 short : ∀ f ∈ fs, f.name.size < 9223372036854775808
 len : fs.length < 9223372036854775808
def fieldOk (size : Int) (f : PF) : Bool := !(!isName f.name || decide (f.at_ < 0) || decide (f.at_ ≥ size) || decide (f.bytes < 1) || decide (f.bytes > size - f.at_))
def twice (fs : List PF) (n : ByteArray) : Bool := fs.any fun g => seq g.name n
def fieldAt' (fs : List PF) (size : Int) (i : Nat) : Bool := match fs[i]? with
 | some f => fieldOk size f && !twice (fs.take i) f.name
 | none => false
def fieldsOk (fs : List PF) (size : Int) : Bool := (List.range fs.length).all (fieldAt' fs size) && decide (fs.length ≤ 5)
theorem fields_no {fs : List PF} {size : Int} {i : Nat} {f : PF} (hf : fs[i]? = some f) (h : (fieldOk size f && !twice (fs.take i) f.name) = false) : fieldsOk fs size = false := by
 have hlt : i < fs.length := (List.getElem?_eq_some_iff.1 hf).1
 have : (List.range fs.length).all (fieldAt' fs size) = false := by
  rw [List.all_eq_false]
  exact ⟨i, List.mem_range.2 hlt, by simp only [fieldAt', hf, h]; simp⟩
 simp [fieldsOk, this]
theorem fields_all {fs : List PF} {size : Int} {i : Nat} (h : ∀ j, j < i → fieldAt' fs size j = true) (hi : fs.length ≤ i) : fieldsOk fs size = decide (fs.length ≤ 5) := by
 have : (List.range fs.length).all (fieldAt' fs size) = true := List.all_eq_true.2 fun j hj => h j (by have := List.mem_range.1 hj; omega)
 simp [fieldsOk, this]
theorem upto_all {p : Nat → Bool} {i : Nat} (h : ∀ j, j < i → p j = true) (hb : p i = true) : ∀ j, j < i + 1 → p j = true := by
 intro j hj
 by_cases he : j = i
 · subst he; exact hb
 · exact h j (by omega)
theorem sl_take {P : Program} {H : Hp} {t e : TypeId} {sz : Nat} {x : AV} {n : Nat} (hL : IsL x) (hu : P.underlying t = some (.slice e)) (hs : szOf P e = some sz) (hlo : lenOk sz (lrows x) = true) (hn : n ≤ (lrows x).length) :
 ∃ y, (vslice P H t x none (some (.int .i64 (n : Int))) none).map (·, H) = some (y, H) ∧ IsL y ∧ lrows y = (lrows x).take n := by
 have hb : ∀ m, n ≤ m → vbounds m none (some (.int .i64 (n : Int))) none = some (0, n, none) := fun m hm => by simp [vbounds, bnd, hm]
 rcases hL with rfl | ⟨tg, rows, rfl⟩
 · refine ⟨.nils, ?_, .inl rfl, by simp [lrows]⟩
   have hn0 : n ≤ 0 := by simpa [lrows] using hn
   simp only [vslice, hu, hs, hb 0 hn0, Option.map_some]
 · refine ⟨.list (cutTag tg rows.length 0 n none) ((rows.drop 0).take (n - 0)), ?_, .inr ⟨_, _, rfl⟩, by simp [lrows]⟩
   have hlo' : lenOk sz rows = true := hlo
   simp only [vslice, hu, hs, hb rows.length hn, hlo', if_true, Option.map_some]
theorem encF_len {fs : List PF} : lenOk 3 (fs.map encF) = true := List.all_eq_true.2 fun r hr => by
 obtain ⟨f, _, rfl⟩ := List.mem_map.1 hr
 rfl
def fidx (p : List AV → Bool) (rows : List (List AV)) : Int := match rows.findIdx? p with
 | some i => i
 | none => -1
theorem fidx_at {p : List AV → Bool} {rows : List (List AV)} {i : Nat} {r : List AV} (hn : ∀ j r, j < i → rows[j]? = some r → p r = false) (hr : rows[i]? = some r) (hp : p r = true) : fidx p rows = i := by
 have : rows.findIdx? p = some i := by
  rw [List.findIdx?_eq_some_iff_getElem]
  obtain ⟨h, e⟩ := List.getElem?_eq_some_iff.1 hr
  refine ⟨h, by rw [e]; exact hp, fun j hj => ?_⟩
  have := hn j _ hj (List.getElem?_eq_getElem (by omega))
  simp [this]
 simp [fidx, this]
theorem fidx_no {p : List AV → Bool} {rows : List (List AV)} {i : Nat} (hn : ∀ j r, j < i → rows[j]? = some r → p r = false) (hi : rows.length ≤ i) : fidx p rows = -1 := by
 have : rows.findIdx? p = none := by
  rw [List.findIdx?_eq_none_iff]
  intro x hx
  obtain ⟨j, hj⟩ := List.mem_iff_getElem?.1 hx
  have := (List.getElem?_eq_some_iff.1 hj).1
  exact hn j x (by omega) hj
 simp [fidx, this]
theorem fidx_ge {p : List AV → Bool} {rows : List (List AV)} : decide (fidx p rows ≥ 0) = rows.any p := by
 unfold fidx
 cases h : rows.findIdx? p with
 | none =>
   rw [List.findIdx?_eq_none_iff] at h
   have : rows.any p = false := by
    rw [List.any_eq_false]; intro x hx; simp [h x hx]
   simp [this]
 | some i =>
   rw [List.findIdx?_eq_some_iff_getElem] at h
   obtain ⟨h1, h2, h3⟩ := h
   have : rows.any p = true := by
    rw [List.any_eq_true]; exact ⟨_, List.getElem_mem h1, h2⟩
   simp [this]
theorem upto_succ {p : List AV → Bool} {rows : List (List AV)} {i : Nat} {r : List AV} (hn : ∀ j r, j < i → rows[j]? = some r → p r = false) (hr : rows[i]? = some r) (hp : p r = false) : ∀ j r, j < i + 1 → rows[j]? = some r → p r = false := by
 intro j r' hj hr'
 by_cases h : j = i
 · subst h; rw [hr] at hr'; cases hr'; exact hp
 · exact hn j r' (by omega) hr'
def nameIs (n : ByteArray) (r : List AV) : Bool := match r with
 | .str m :: _ => seq m n
 | _ => false
theorem any_name {fs : List PF} {n : ByteArray} : (fs.map encF).any (nameIs n) = twice fs n := by
 simp only [List.any_map, twice]
 rfl
theorem zFieldEq (G : Glob) (n m : ByteArray) (a b c d : Int) (bo : Bool) : Vi.Fn Tryz.prog G 161 [.agg [.str n, .int .i64 a, .int .i64 b], .iptr bo [.str m, .int .i64 c, .int .i64 d]] (.bool (seq n m)) := by
 refine fn_body (fun _ => .iso) Tryz.func161 rfl ?_
 refine vc_norm (env' := [_, _, _, _, _, _, _, _, _]) (H' := []) rfl rfl ?_
 refine vs (wr ?_)
 refine w_opH (v := .ptr 0 0 0) (env' := _) (H2 := [.arr 117 3 [[_, _, _]]]) rfl rfl rfl rfl (fun _ h => h) (v9 rfl ?_)
 refine wN rfl rfl rfl (v9 rfl ?_)
 refine we rfl (vs (wr ?_))
 refine wN (v := .ptr 0 0 0) rfl rfl rfl (v9 rfl ?_)
 refine wN rfl rfl rfl (v9 rfl ?_)
 refine wN (v := .iptr _ [_, _, _]) rfl rfl rfl (v9 rfl ?_)
 iterate 3 refine wN rfl rfl rfl (v9 rfl ?_)
 refine we rfl (vc_ret (r_fn rfl ?_))
 rfl
theorem zIdxF (G : Glob) (x : AV) (g : Nat) (caps : List AV) (p : List AV → Bool) (hL : IsL x) (hlen : (lrows x).length < 9223372036854775808) (hk : ∀ r ∈ lrows x, r.length = 3) (hcl : mapL (lend0 []) caps = some caps) (he : enterOk Tryz.prog g = true) (hp : ∀ r ∈ lrows x, lend [] (.agg r) = some (.agg r) ∧ Vi.Fn Tryz.prog G g (.agg r :: caps) (.bool (p r))) : Vi.Fn Tryz.prog G 174 [x, .clo g caps] (.int .i64 (fidx p (lrows x))) := by
 refine fn_body (fun _ => .iso) Tryz.func174 rfl ?_
 refine vc_norm (env' := [_, _, _, _, _, _, _, _, _, _, _, _, _, _, _, _, _, _, _]) (H' := []) rfl rfl ?_
 refine vs (wr ?_)
 refine wN rfl rfl rfl (v19 rfl ?_)
 refine we rfl (vs (vs (wr ?_)))
 refine wN rfl rfl rfl (v19 rfl ?_)
 first | refine wN rfl rfl rfl (v19 rfl ?_) | refine x_len rfl rfl ‹_› Tryz.underlying60 rfl (v19 rfl ?_)
 refine wN rfl rfl rfl (v19 rfl ?_)
 refine we rfl (vc_block ?_)
 refine vc_loopU (α := { i : Nat // (∀ j r, j < i → (lrows x)[j]? = some r → p r = false) ∧ i ≤ (lrows x).length }) (fun i => (rnone 4 ++ ([some .undef, some .undef, none, none, some (.int .i64 (i.1 : Nat))] ++ (rundef 10)))) (fun i => (lrows x).length - i.1) ⟨0, fun j r h => by omega, by omega⟩ (by repeat' first | exact trivial | refine ⟨.inr rfl, ?_⟩ | refine ⟨.inl rfl, ?_⟩ | fail) (fun _ => ⟨Nat.zero_le _, (by repeat' first | exact trivial | exact (cellsB_lent hcl) | exact IsL.belowV ‹_› | refine ⟨?_, ?_⟩ | exact IsL.below ‹_› | (simp [valB, leafB, cellsB, IsL.below, *]; done) | (simp [valB, leafB, cellsB, IsL.below, *]; omega) | fail), (by repeat' first | exact trivial | exact IsL.below (by assumption) | refine ⟨?_, ?_⟩ | (simp [leafB]; done))⟩) ?_
 rintro ⟨i, hn, hi⟩ Y0 hY0
 refine vc_norm (env' := [_, _, _, _, _, _, _, _, _, _, _, _, _, _, _, _, _, _, _]) (H' := []) rfl rfl ?_
 refine vs (wr ?_)
 refine wN rfl rfl rfl (v19 rfl ?_)
 refine we rfl (vs ?_)
 refine vc_cond rfl (fun hc9 => ?_) (fun hc9 => ?_)
 ·
  have hlt : i < (lrows x).length := by simpa using hc9
  obtain ⟨r, hri⟩ : ∃ r, (lrows x)[i]? = some r := ⟨_, List.getElem?_eq_getElem hlt⟩
  obtain ⟨hl, hF⟩ := hp r (List.mem_of_getElem? hri)
  have hrk := hk r (List.mem_of_getElem? hri)
  obtain ⟨c0, c1, c2, rfl⟩ : ∃ c0 c1 c2, r = [c0, c1, c2] := by
   match r, hrk with
   | [c0, c1, c2], _ => exact ⟨c0, c1, c2, rfl⟩
  refine vc_skip (n_then (vs (vc_block (vs (wr ?_)))))
  iterate 2 refine wN rfl rfl rfl (v19 rfl ?_)
  refine we rfl (vs (wr ?_))
  iterate 3 refine wN rfl rfl rfl (v19 rfl ?_)
  first | refine wN (v := .iptr _ [_, _, _]) rfl rfl rfl (v19 rfl ?_) | (refine x_index rfl rfl ‹_› rfl el60 (by omega) ‹_› rfl (fun bo => ?_); refine v19 rfl ?_)
  refine wN (v := .agg [_, _, _]) rfl rfl rfl (v19 rfl ?_)
  refine w_callI (env' := _) rfl rfl rfl he rfl (mapL_app hl (lends_of0 hcl)) (hF) rfl (v19 rfl ?_)
  refine we rfl ?_
  refine vc_cond rfl (fun hc16 => ?_) (fun hc16 => ?_)
  ·
   refine vs (wr ?_)
   iterate 2 refine wN rfl rfl rfl (v19 rfl ?_)
   refine we rfl (vc_ret (r_block (r_then (r_then (r_block (r_then (r_fn rfl ?_)))))))
   show some (AV.int .i64 (i : Int)) = _
   rw [fidx_at hn hri hc16]
  ·
   refine vc_skip (n_block (n_then (wr ?_)))
   iterate 2 refine wN rfl rfl rfl (v19 rfl ?_)
   refine we rfl ?_
   refine hY0 ⟨i + 1, upto_succ hn hri (by simpa using hc16), hlt⟩ (by simp only; omega) _ _ _ ?_ rfl
   repeat' first | exact trivial | refine ⟨.inr rfl, ?_⟩ | refine ⟨.inl rfl, ?_⟩ | refine ⟨.inl ?_, ?_⟩ | fail
   all_goals first | exact (int_succ (by omega)).symm
 ·
  have hge : ¬ i < (lrows x).length := by simpa using hc9
  refine vc_exit (x_then (x_then (x_same (n_then (vs (wr ?_))))))
  refine wN rfl rfl rfl (v19 rfl ?_)
  refine we rfl (vc_ret (r_fn rfl ?_))
  show some (AV.int .i64 (-1)) = _
  rw [fidx_no hn (by omega)]
theorem zHasF (G : Glob) (x : AV) (g : Nat) (caps : List AV) (p : List AV → Bool) (hL : IsL x) (hlen : (lrows x).length < 9223372036854775808) (hk : ∀ r ∈ lrows x, r.length = 3) (hcl : mapL (lend0 []) caps = some caps) (he : enterOk Tryz.prog g = true) (hp : ∀ r ∈ lrows x, lend [] (.agg r) = some (.agg r) ∧ Vi.Fn Tryz.prog G g (.agg r :: caps) (.bool (p r))) : Vi.Fn Tryz.prog G 160 [x, .clo g caps] (.bool ((lrows x).any p)) := by
 have hclo : lend [] (.clo g caps) = some (.clo g caps) := lend_clo hcl
 refine fn_body (fun _ => .iso) Tryz.func160 rfl ?_
 refine vc_norm (env' := [_, _, _, _, _, _, _, _, _]) (H' := []) rfl rfl ?_
 refine vs (wr ?_)
 refine wN rfl rfl rfl (v9 rfl ?_)
 refine we rfl (vs (wr ?_))
 iterate 2 refine wN rfl rfl rfl (v9 rfl ?_)
 refine w_callI (env' := _) rfl rfl rfl (by kernel_rfl) rfl (mapL_cons hL.lend (mapL_cons hclo rfl)) (zIdxF G x g caps p hL hlen hk hcl he hp) rfl (v9 rfl ?_)
 iterate 2 refine wN rfl rfl rfl (v9 rfl ?_)
 refine we rfl (vc_ret (r_fn rfl ?_))
 show some (AV.bool (decide (fidx p (lrows x) ≥ 0))) = _
 rw [fidx_ge]
theorem zAreFields (G : Glob) (x : AV) (fs : List PF) (size : Int) (hx : FieldsIs x fs) (h1 : 1 ≤ size) (h40 : size ≤ 40) : Vi.Fn Tryz.prog G 134 [x, .int .i64 size] (.bool (fieldsOk fs size)) := by
 have hL := hx.isL
 have hxl : (lrows x).length = fs.length := by rw [hx.rows]; simp
 refine fn_body (fun _ => .iso) Tryz.func134 rfl ?_
 refine vc_norm (env' := (_ :: _ :: _ :: _ :: _ :: _ :: _ :: _ :: _ :: _ :: _ :: _ :: _ :: _ :: _ :: _ :: _ :: _ :: _ :: _ :: _ :: _ :: _ :: _ :: _ :: _ :: _ :: _ :: _ :: _ :: _ :: _ :: _ :: _ :: _ :: _ :: _ :: _ :: _ :: _ :: _ :: _ :: _ :: _ :: _ :: _ :: _ :: _ :: _ :: _ :: _ :: _ :: [])) (H' := []) rfl rfl ?_
 refine vs (wr ?_)
 refine wN rfl rfl rfl (v52 rfl ?_)
 refine we rfl (vs (vs (wr ?_)))
 refine wN rfl rfl rfl (v52 rfl ?_)
 first | refine wN rfl rfl rfl (v52 rfl ?_) | refine x_len rfl rfl ‹_› Tryz.underlying60 rfl (v52 rfl ?_)
 refine wN rfl rfl rfl (v52 rfl ?_)
 refine we rfl (vc_block ?_)
 refine vc_loopU (α := { i : Nat // (∀ j, j < i → fieldAt' fs size j = true) ∧ i ≤ fs.length }) (fun i => (rnone 4 ++ ([some .undef, some .undef, some .undef, none, none, some (.int .i64 (i.1 : Nat))] ++ (rundef 39 ++ ([none, none, none]))))) (fun i => fs.length - i.1) ⟨0, fun j h => by omega, by omega⟩ (by repeat' first | exact trivial | refine ⟨.inr rfl, ?_⟩ | refine ⟨.inl rfl, ?_⟩ | fail) (fun _ => ⟨Nat.zero_le _, (by repeat' first | exact trivial | exact IsL.belowV ‹_› | refine ⟨?_, ?_⟩ | exact IsL.below ‹_› | (simp [valB, leafB, cellsB, IsL.below, *]; done) | (simp [valB, leafB, cellsB, IsL.below, *]; omega) | fail), (by repeat' first | exact trivial | exact IsL.below (by assumption) | refine ⟨?_, ?_⟩ | (simp [leafB]; done))⟩) ?_
 rintro ⟨i, hn, hi⟩ Y0 hY0
 refine vc_norm (env' := (_ :: _ :: _ :: _ :: _ :: _ :: _ :: _ :: _ :: (.int .i64 (i : Int)) :: _ :: _ :: _ :: _ :: _ :: _ :: _ :: _ :: _ :: _ :: _ :: _ :: _ :: _ :: _ :: _ :: _ :: _ :: _ :: _ :: _ :: _ :: _ :: _ :: _ :: _ :: _ :: _ :: _ :: _ :: _ :: _ :: _ :: _ :: _ :: _ :: _ :: _ :: _ :: _ :: _ :: _ :: [])) (H' := []) rfl rfl ?_
 refine vs (wr ?_)
 refine wN rfl rfl rfl (v52 rfl ?_)
 refine we rfl (vs ?_)
 refine vc_cond rfl (fun hc10 => ?_) (fun hc10 => ?_)
 ·
  have hlt : i < fs.length := by have := of_decide_eq_true hc10; omega
  obtain ⟨f, hf⟩ : ∃ f, fs[i]? = some f := ⟨_, List.getElem?_eq_getElem hlt⟩
  have hri : (lrows x)[i]? = some [.str f.name, .int .i64 f.at_, .int .i64 f.bytes] := by rw [hx.rows, List.getElem?_map, hf]; rfl
  have hfs := hx.short f (List.mem_of_getElem? hf)
  refine vc_skip (n_then (vs (vc_block (vs (wr ?_)))))
  refine wN rfl rfl rfl (v52 rfl ?_)
  first | refine wN (v := .iptr _ [_, _, _]) rfl rfl rfl (v52 rfl ?_) | (refine x_index rfl rfl ‹_› rfl el60 (by omega) ‹_› rfl (fun bo => ?_); refine v52 rfl ?_)
  refine wN (v := .agg [_, _, _]) rfl rfl rfl (v52 rfl ?_)
  refine w_opH (v := .ptr 0 0 0) (env' := _) (H2 := [.arr 117 3 [[_, _, _]]]) rfl rfl rfl rfl (fun _ h => h) (v52 rfl ?_)
  refine wN rfl rfl rfl (v52 rfl ?_)
  refine w_op0N (H2 := [.arr 117 3 [[_, _, _]]]) rfl rfl rfl (fun _ h => h) ?_
  refine we rfl (vs (vs (wr ?_)))
  refine wN (v := .ptr 0 0 0) rfl rfl rfl (v52 rfl ?_)
  refine wN rfl rfl rfl (v52 rfl ?_)
  refine w_callI (env' := _) rfl rfl rfl (by kernel_rfl) rfl (by repeat' first | exact IsL.lend ‹_› | exact IsL.lend0 ‹_› | refine mapL_cons ?_ ?_ | refine lend_agg ?_ | rfl) (zName G f.name hfs) rfl (v52 rfl ?_)
  iterate 2 refine wN rfl rfl rfl (v52 rfl ?_)
  refine w_split 18 rfl (fun hg18 => ?_) (fun hg18 => ?_)
  ·
   refine v52 rfl ?_
   iterate 3 refine wS (wanted_f 18 (by kernel_rfl) rfl) (v52 rfl ?_)
   iterate 2 refine wN rfl rfl rfl (v52 rfl ?_)
   iterate 4 refine wS (wanted_f 23 (by kernel_rfl) rfl) (v52 rfl ?_)
   iterate 2 refine wN rfl rfl rfl (v52 rfl ?_)
   iterate 3 refine wS (wanted_f 29 (by kernel_rfl) rfl) (v52 rfl ?_)
   iterate 2 refine wN rfl rfl rfl (v52 rfl ?_)
   iterate 7 refine wS (wanted_f 34 (by kernel_rfl) rfl) (v52 rfl ?_)
   refine wN rfl rfl rfl (v52 rfl ?_)
   refine we rfl ?_
   refine vc_true rfl ?_
   refine vs (wr ?_)
   refine wN rfl rfl rfl (v52 rfl ?_)
   refine we rfl (vc_ret (r_then (r_block (r_then (r_then (r_block (r_then (r_fn rfl ?_))))))))
   have hb : (fieldOk size f && !twice (fs.take i) f.name) = false := by
    have hk : fieldOk size f = false := by simp only [fieldOk, hg18, Bool.true_or, Bool.or_true, Bool.not_true, Bool.not_false]
    rw [hk]; rfl
   show some (AV.bool false) = some (AV.bool _)
   rw [fields_no hf hb]
  ·
   refine v52 rfl ?_
   refine wN (v := .ptr 0 0 1) (wanted_t 18 (by kernel_rfl) rfl) rfl rfl (v52 rfl ?_)
   iterate 2 refine wN (wanted_t 18 (by kernel_rfl) rfl) rfl rfl (v52 rfl ?_)
   iterate 2 refine wN rfl rfl rfl (v52 rfl ?_)
   refine w_split 23 rfl (fun hg23 => ?_) (fun hg23 => ?_)
   ·
    refine v52 rfl ?_
    iterate 4 refine wS (wanted_f 23 (by kernel_rfl) rfl) (v52 rfl ?_)
    iterate 2 refine wN rfl rfl rfl (v52 rfl ?_)
    iterate 3 refine wS (wanted_f 29 (by kernel_rfl) rfl) (v52 rfl ?_)
    iterate 2 refine wN rfl rfl rfl (v52 rfl ?_)
    iterate 7 refine wS (wanted_f 34 (by kernel_rfl) rfl) (v52 rfl ?_)
    refine wN rfl rfl rfl (v52 rfl ?_)
    refine we rfl ?_
    refine vc_true rfl ?_
    refine vs (wr ?_)
    refine wN rfl rfl rfl (v52 rfl ?_)
    refine we rfl (vc_ret (r_then (r_block (r_then (r_then (r_block (r_then (r_fn rfl ?_))))))))
    have hb : (fieldOk size f && !twice (fs.take i) f.name) = false := by
     have hk : fieldOk size f = false := by simp only [fieldOk, hg23, Bool.true_or, Bool.or_true, Bool.not_true, Bool.not_false]
     rw [hk]; rfl
    show some (AV.bool false) = some (AV.bool _)
    rw [fields_no hf hb]
   ·
    refine v52 rfl ?_
    refine wN (v := .ptr 0 0 1) (wanted_t 23 (by kernel_rfl) rfl) rfl rfl (v52 rfl ?_)
    iterate 3 refine wN (wanted_t 23 (by kernel_rfl) rfl) rfl rfl (v52 rfl ?_)
    iterate 2 refine wN rfl rfl rfl (v52 rfl ?_)
    refine w_split 29 rfl (fun hg29 => ?_) (fun hg29 => ?_)
    ·
     refine v52 rfl ?_
     iterate 3 refine wS (wanted_f 29 (by kernel_rfl) rfl) (v52 rfl ?_)
     iterate 2 refine wN rfl rfl rfl (v52 rfl ?_)
     iterate 7 refine wS (wanted_f 34 (by kernel_rfl) rfl) (v52 rfl ?_)
     refine wN rfl rfl rfl (v52 rfl ?_)
     refine we rfl ?_
     refine vc_true rfl ?_
     refine vs (wr ?_)
     refine wN rfl rfl rfl (v52 rfl ?_)
     refine we rfl (vc_ret (r_then (r_block (r_then (r_then (r_block (r_then (r_fn rfl ?_))))))))
     have hb : (fieldOk size f && !twice (fs.take i) f.name) = false := by
      have hk : fieldOk size f = false := by simp only [fieldOk, hg29, Bool.true_or, Bool.or_true, Bool.not_true, Bool.not_false]
      rw [hk]; rfl
     show some (AV.bool false) = some (AV.bool _)
     rw [fields_no hf hb]
    ·
     refine v52 rfl ?_
     refine wN (v := .ptr 0 0 2) (wanted_t 29 (by kernel_rfl) rfl) rfl rfl (v52 rfl ?_)
     iterate 2 refine wN (wanted_t 29 (by kernel_rfl) rfl) rfl rfl (v52 rfl ?_)
     iterate 2 refine wN rfl rfl rfl (v52 rfl ?_)
     refine w_split 34 rfl (fun hg34 => ?_) (fun hg34 => ?_)
     ·
      refine v52 rfl ?_
      iterate 7 refine wS (wanted_f 34 (by kernel_rfl) rfl) (v52 rfl ?_)
      refine wN rfl rfl rfl (v52 rfl ?_)
      refine we rfl ?_
      refine vc_true rfl ?_
      refine vs (wr ?_)
      refine wN rfl rfl rfl (v52 rfl ?_)
      refine we rfl (vc_ret (r_then (r_block (r_then (r_then (r_block (r_then (r_fn rfl ?_))))))))
      have hb : (fieldOk size f && !twice (fs.take i) f.name) = false := by
       have hk : fieldOk size f = false := by simp only [fieldOk, hg34, Bool.true_or, Bool.or_true, Bool.not_true, Bool.not_false]
       rw [hk]; rfl
      show some (AV.bool false) = some (AV.bool _)
      rw [fields_no hf hb]
     ·
      refine v52 rfl ?_
      refine wN (v := .ptr 0 0 2) (wanted_t 34 (by kernel_rfl) rfl) rfl rfl (v52 rfl ?_)
      iterate 2 refine wN (wanted_t 34 (by kernel_rfl) rfl) rfl rfl (v52 rfl ?_)
      refine wN (v := .ptr 0 0 1) (wanted_t 34 (by kernel_rfl) rfl) rfl rfl (v52 rfl ?_)
      refine wN (wanted_t 34 (by kernel_rfl) rfl) rfl rfl (v52 rfl ?_)
      refine wN (v := .int .i64 (size - f.at_)) (wanted_t 34 (by kernel_rfl) rfl) (int_eq (i64_small (by have := of_decide_eq_false hg23; have := of_decide_eq_false hg29; omega) (by have := of_decide_eq_false hg23; omega))) rfl (v52 rfl ?_)
      refine wN (wanted_t 34 (by kernel_rfl) rfl) rfl rfl (v52 rfl ?_)
      refine wN rfl rfl rfl (v52 rfl ?_)
      refine we rfl ?_
      refine vc_cond rfl (fun hc42 => ?_) (fun hc42 => ?_)
      ·
       refine vs (wr ?_)
       refine wN rfl rfl rfl (v52 rfl ?_)
       refine we rfl (vc_ret (r_then (r_block (r_then (r_then (r_block (r_then (r_fn rfl ?_))))))))
       have hb : (fieldOk size f && !twice (fs.take i) f.name) = false := by
        have hk : fieldOk size f = false := by simp only [fieldOk, hc42, Bool.true_or, Bool.or_true, Bool.not_true, Bool.not_false]
        rw [hk]; rfl
       show some (AV.bool false) = some (AV.bool _)
       rw [fields_no hf hb]
      ·
       have hk : fieldOk size f = true := by simp only [fieldOk, hg18, hg23, hg29, hg34, hc42, Bool.or_false, Bool.not_false]
       obtain ⟨y, hy, hyL, hyr⟩ := sl_take (P := Tryz.prog) (H := [VO.arr 117 3 [[.str f.name, .int .i64 f.at_, .int .i64 f.bytes]]]) (n := i) hL Tryz.underlying60 sz117 (by rw [hx.rows]; exact encF_len) (by omega)
       have hyr2 : lrows y = (fs.take i).map encF := by rw [hyr, hx.rows, List.map_take]
       have hcont := zHasF G y 161 [.iptr true [.str f.name, .int .i64 f.at_, .int .i64 f.bytes]] (nameIs f.name) hyL (by rw [hyr]; simp; have := hx.len; omega) (fun r hr => by rw [hyr2] at hr; obtain ⟨g, _, rfl⟩ := List.mem_map.1 hr; rfl) rfl (by kernel_rfl) (fun r hr => by rw [hyr2] at hr; obtain ⟨g, _, rfl⟩ := List.mem_map.1 hr; exact ⟨rfl, zFieldEq G g.name f.name g.at_ g.bytes f.at_ f.bytes true⟩)
       rw [hyr2, any_name] at hcont
       refine vc_skip (n_then (vs (wr ?_)))
       iterate 2 refine wN rfl rfl rfl (v52 rfl ?_)
       refine wN (v := y) rfl (hy) rfl (v52 rfl ?_)
       refine wN rfl rfl rfl (v52 rfl ?_)
       refine w_callI (env' := _) rfl rfl rfl (by kernel_rfl) rfl (by repeat' first | exact IsL.lend ‹_› | exact IsL.lend0 ‹_› | refine mapL_cons ?_ ?_ | refine lend_agg ?_ | rfl) (hcont) rfl (v52 rfl ?_)
       refine we rfl ?_
       refine vc_cond rfl (fun hc47 => ?_) (fun hc47 => ?_)
       ·
        refine vs (wr ?_)
        refine wN rfl rfl rfl (v52 rfl ?_)
        refine we rfl (vc_ret (r_block (r_then (r_then (r_block (r_then (r_fn rfl ?_)))))))
        have hb : (fieldOk size f && !twice (fs.take i) f.name) = false := by rw [show twice (fs.take i) f.name = true from hc47]; simp
        show some (AV.bool false) = some (AV.bool _)
        rw [fields_no hf hb]
       ·
        have ht : twice (fs.take i) f.name = false := hc47
        refine vc_skip (n_block (n_then (wr ?_)))
        iterate 2 refine wN rfl rfl rfl (v52 rfl ?_)
        refine we rfl ?_
        refine hY0 ⟨i + 1, upto_all hn (by simp only [fieldAt', hf, hk, ht]; rfl), hlt⟩ (by simp only; omega) _ _ _ ?_ rfl
        repeat' first | exact trivial | refine ⟨.inr rfl, ?_⟩ | refine ⟨.inl rfl, ?_⟩ | refine ⟨.inl ?_, ?_⟩ | fail
        all_goals first | (exact (int_succ (by have := hx.len; omega)).symm)
 ·
  have hge : ¬ i < fs.length := by have := of_decide_eq_false hc10; omega
  refine vc_exit (x_then (x_then (x_same (n_then (vs (wr ?_))))))
  refine wN rfl rfl rfl (v52 rfl ?_)
  first | refine wN rfl rfl rfl (v52 rfl ?_) | refine x_len rfl rfl ‹_› Tryz.underlying60 rfl (v52 rfl ?_)
  iterate 2 refine wN rfl rfl rfl (v52 rfl ?_)
  refine we rfl (vc_ret (r_fn rfl ?_))
  show some (AV.bool _) = some (AV.bool _)
  rw [fields_all hn (by omega)]
  exact congrArg (fun z => some (AV.bool z)) (decide_eq_decide.2 (by omega))
end Go.Vi
namespace Go.Vi
open Go Go.Vi Go.Proofs
attribute [local irreducible] vops vopsD vc
structure PT where
 name : ByteArray
 parent : Int
 min : Int
 size : Int
 fields : List PF
 fx : AV
 key : Int
 unique : Bool
 last : Bool
def encT (t : PT) : List AV := [.str t.name, .int .i64 t.parent, .int .i64 t.min, .int .i64 t.size, t.fx, .int .i64 t.key, .bool t.unique, .bool t.last]
structure TypeIs (t : PT) : Prop where
 short : t.name.size < 9223372036854775808
 fx : FieldsIs t.fx t.fields
def keyOk (t : PT) : Bool := match t.fields[t.key.toNat]? with
 | some f => decide (f.at_ + f.bytes ≤ t.min)
 | none => false
def typeHead (t : PT) : Bool := !(!isName t.name || decide (t.min < 1) || decide (t.min > t.size) || decide (t.size > 40) || !fieldsOk t.fields t.size)
def typeOk (t : PT) : Bool := typeHead t && (if t.key = -1 then !t.unique else if t.key < 0 ∨ t.key ≥ t.fields.length then false else keyOk t)
theorem fields_get {fs : List PF} {size : Int} {i : Nat} {f : PF} (h : fieldsOk fs size = true) (hf : fs[i]? = some f) : fieldOk size f = true := by
 simp only [fieldsOk, Bool.and_eq_true] at h
 have := List.all_eq_true.1 h.1 i (List.mem_range.2 (List.getElem?_eq_some_iff.1 hf).1)
 simp only [fieldAt', hf, Bool.and_eq_true] at this
 exact this.1
theorem fieldOk_bounds {size : Int} {f : PF} (h : fieldOk size f = true) : 0 ≤ f.at_ ∧ f.at_ < size ∧ 1 ≤ f.bytes ∧ f.at_ + f.bytes ≤ size := by
 simp only [fieldOk, Bool.not_eq_true', Bool.or_eq_false_iff, decide_eq_false_iff_not] at h
 omega
theorem zIsType (G : Glob) (t : PT) (ht : TypeIs t) : Vi.Fn Tryz.prog G 105 [.agg (encT t)] (.bool (typeOk t)) := by
 have hL := ht.fx.isL
 have hxl : (lrows t.fx).length = t.fields.length := by rw [ht.fx.rows]; simp
 refine fn_body (fun _ => .iso) Tryz.func105 rfl ?_
 refine vc_norm (env' := (_ :: _ :: _ :: _ :: _ :: _ :: _ :: _ :: _ :: _ :: _ :: _ :: _ :: _ :: _ :: _ :: _ :: _ :: _ :: _ :: _ :: _ :: _ :: _ :: _ :: _ :: _ :: _ :: _ :: _ :: _ :: _ :: _ :: _ :: _ :: _ :: _ :: _ :: _ :: _ :: _ :: _ :: _ :: _ :: _ :: _ :: _ :: _ :: _ :: _ :: _ :: _ :: _ :: _ :: _ :: _ :: _ :: _ :: _ :: _ :: _ :: _ :: _ :: _ :: _ :: _ :: _ :: _ :: _ :: _ :: [])) (H' := []) rfl rfl ?_
 refine vs (wr ?_)
 refine w_opH (v := .ptr 0 0 0) (env' := _) (H2 := [.arr 62 8 [[_, _, _, _, _, _, _, _]]]) rfl rfl rfl rfl (fun _ h => h) (v70 rfl ?_)
 refine wN rfl rfl rfl (v70 rfl ?_)
 refine we rfl (vs (vc_block (vs (wr ?_))))
 refine wN (v := .ptr 0 0 0) rfl rfl rfl (v70 rfl ?_)
 refine wN rfl rfl rfl (v70 rfl ?_)
 refine w_callI (env' := _) rfl rfl rfl (by kernel_rfl) rfl (by repeat' first | exact IsL.lend ‹_› | exact IsL.lend0 ‹_› | refine mapL_cons ?_ ?_ | refine lend_agg ?_ | rfl) (zName G t.name ht.short) rfl (v70 rfl ?_)
 iterate 2 refine wN rfl rfl rfl (v70 rfl ?_)
 refine w_split 8 rfl (fun hg8 => ?_) (fun hg8 => ?_)
 ·
  refine v70 rfl ?_
  iterate 3 refine wS (wanted_f 8 (by kernel_rfl) rfl) (v70 rfl ?_)
  iterate 2 refine wN rfl rfl rfl (v70 rfl ?_)
  iterate 5 refine wS (wanted_f 13 (by kernel_rfl) rfl) (v70 rfl ?_)
  iterate 2 refine wN rfl rfl rfl (v70 rfl ?_)
  iterate 3 refine wS (wanted_f 20 (by kernel_rfl) rfl) (v70 rfl ?_)
  iterate 2 refine wN rfl rfl rfl (v70 rfl ?_)
  iterate 6 refine wS (wanted_f 25 (by kernel_rfl) rfl) (v70 rfl ?_)
  iterate 2 refine wN rfl rfl rfl (v70 rfl ?_)
  refine we rfl ?_
  refine vc_true rfl ?_
  refine vs (wr ?_)
  refine wN rfl rfl rfl (v70 rfl ?_)
  refine we rfl (vc_ret (r_block (r_then (r_fn rfl ?_))))
  have hh : typeHead t = false := by simp only [typeHead, hg8, Bool.true_or, Bool.or_true, Bool.not_true]
  show some (AV.bool false) = some (AV.bool (typeOk t))
  rw [typeOk, hh]
  rfl
 ·
  refine v70 rfl ?_
  refine wN (v := .ptr 0 0 2) (wanted_t 8 (by kernel_rfl) rfl) rfl rfl (v70 rfl ?_)
  iterate 2 refine wN (wanted_t 8 (by kernel_rfl) rfl) rfl rfl (v70 rfl ?_)
  iterate 2 refine wN rfl rfl rfl (v70 rfl ?_)
  refine w_split 13 rfl (fun hg13 => ?_) (fun hg13 => ?_)
  ·
   refine v70 rfl ?_
   iterate 5 refine wS (wanted_f 13 (by kernel_rfl) rfl) (v70 rfl ?_)
   iterate 2 refine wN rfl rfl rfl (v70 rfl ?_)
   iterate 3 refine wS (wanted_f 20 (by kernel_rfl) rfl) (v70 rfl ?_)
   iterate 2 refine wN rfl rfl rfl (v70 rfl ?_)
   iterate 6 refine wS (wanted_f 25 (by kernel_rfl) rfl) (v70 rfl ?_)
   iterate 2 refine wN rfl rfl rfl (v70 rfl ?_)
   refine we rfl ?_
   refine vc_true rfl ?_
   refine vs (wr ?_)
   refine wN rfl rfl rfl (v70 rfl ?_)
   refine we rfl (vc_ret (r_block (r_then (r_fn rfl ?_))))
   have hh : typeHead t = false := by simp only [typeHead, hg13, Bool.true_or, Bool.or_true, Bool.not_true]
   show some (AV.bool false) = some (AV.bool (typeOk t))
   rw [typeOk, hh]
   rfl
  ·
   refine v70 rfl ?_
   refine wN (v := .ptr 0 0 2) (wanted_t 13 (by kernel_rfl) rfl) rfl rfl (v70 rfl ?_)
   refine wN (wanted_t 13 (by kernel_rfl) rfl) rfl rfl (v70 rfl ?_)
   refine wN (v := .ptr 0 0 3) (wanted_t 13 (by kernel_rfl) rfl) rfl rfl (v70 rfl ?_)
   iterate 2 refine wN (wanted_t 13 (by kernel_rfl) rfl) rfl rfl (v70 rfl ?_)
   iterate 2 refine wN rfl rfl rfl (v70 rfl ?_)
   refine w_split 20 rfl (fun hg20 => ?_) (fun hg20 => ?_)
   ·
    refine v70 rfl ?_
    iterate 3 refine wS (wanted_f 20 (by kernel_rfl) rfl) (v70 rfl ?_)
    iterate 2 refine wN rfl rfl rfl (v70 rfl ?_)
    iterate 6 refine wS (wanted_f 25 (by kernel_rfl) rfl) (v70 rfl ?_)
    iterate 2 refine wN rfl rfl rfl (v70 rfl ?_)
    refine we rfl ?_
    refine vc_true rfl ?_
    refine vs (wr ?_)
    refine wN rfl rfl rfl (v70 rfl ?_)
    refine we rfl (vc_ret (r_block (r_then (r_fn rfl ?_))))
    have hh : typeHead t = false := by simp only [typeHead, hg20, Bool.true_or, Bool.or_true, Bool.not_true]
    show some (AV.bool false) = some (AV.bool (typeOk t))
    rw [typeOk, hh]
    rfl
   ·
    refine v70 rfl ?_
    refine wN (v := .ptr 0 0 3) (wanted_t 20 (by kernel_rfl) rfl) rfl rfl (v70 rfl ?_)
    iterate 2 refine wN (wanted_t 20 (by kernel_rfl) rfl) rfl rfl (v70 rfl ?_)
    iterate 2 refine wN rfl rfl rfl (v70 rfl ?_)
    refine w_split 25 rfl (fun hg25 => ?_) (fun hg25 => ?_)
    ·
     refine v70 rfl ?_
     iterate 6 refine wS (wanted_f 25 (by kernel_rfl) rfl) (v70 rfl ?_)
     iterate 2 refine wN rfl rfl rfl (v70 rfl ?_)
     refine we rfl ?_
     refine vc_true rfl ?_
     refine vs (wr ?_)
     refine wN rfl rfl rfl (v70 rfl ?_)
     refine we rfl (vc_ret (r_block (r_then (r_fn rfl ?_))))
     have hh : typeHead t = false := by simp only [typeHead, hg25, Bool.true_or, Bool.or_true, Bool.not_true]
     show some (AV.bool false) = some (AV.bool (typeOk t))
     rw [typeOk, hh]
     rfl
    ·
     refine v70 rfl ?_
     refine wN (v := .ptr 0 0 4) (wanted_t 25 (by kernel_rfl) rfl) rfl rfl (v70 rfl ?_)
     refine wN (wanted_t 25 (by kernel_rfl) rfl) rfl rfl (v70 rfl ?_)
     refine wN (v := .ptr 0 0 3) (wanted_t 25 (by kernel_rfl) rfl) rfl rfl (v70 rfl ?_)
     refine wN (wanted_t 25 (by kernel_rfl) rfl) rfl rfl (v70 rfl ?_)
     refine w_callI (env' := _) (wanted_t 25 (by kernel_rfl) rfl) rfl rfl (by kernel_rfl) rfl (by repeat' first | exact IsL.lend ‹_› | exact IsL.lend0 ‹_› | refine mapL_cons ?_ ?_ | refine lend_agg ?_ | rfl) (zAreFields G t.fx t.fields t.size ht.fx (by have := of_decide_eq_false hg13; have := of_decide_eq_false hg20; omega) (by have := of_decide_eq_false hg25; omega)) rfl (v70 rfl ?_)
     refine wN (wanted_t 25 (by kernel_rfl) rfl) rfl rfl (v70 rfl ?_)
     iterate 2 refine wN rfl rfl rfl (v70 rfl ?_)
     refine we rfl ?_
     refine vc_cond rfl (fun hc3 => ?_) (fun hc3 => ?_)
     ·
      refine vs (wr ?_)
      refine wN rfl rfl rfl (v70 rfl ?_)
      refine we rfl (vc_ret (r_block (r_then (r_fn rfl ?_))))
      have hh : typeHead t = false := by simp only [typeHead, hc3, Bool.true_or, Bool.or_true, Bool.not_true]
      show some (AV.bool false) = some (AV.bool (typeOk t))
      rw [typeOk, hh]
      rfl
     ·
      have hh : typeHead t = true := by simp only [typeHead, hg8, hg13, hg20, hg25, hc3, Bool.or_false, Bool.not_false]
      refine vs (wr ?_)
      refine wN (v := .ptr 0 0 5) rfl rfl rfl (v70 rfl ?_)
      iterate 3 refine wN rfl rfl rfl (v70 rfl ?_)
      refine we rfl ?_
      refine vc_cond rfl (fun hc33 => ?_) (fun hc33 => ?_)
      ·
       refine vs (wr ?_)
       refine wN (v := .ptr 0 0 6) rfl rfl rfl (v70 rfl ?_)
       iterate 3 refine wN rfl rfl rfl (v70 rfl ?_)
       refine we rfl (vc_ret (r_block (r_then (r_fn rfl ?_))))
       have hk1 : t.key = -1 := by simpa using hc33
       show some (AV.bool (!t.unique)) = some (AV.bool (typeOk t))
       rw [typeOk, hh, if_pos hk1]
       rfl
      ·
       have hk1 : ¬ t.key = -1 := by simpa using hc33
       refine vs (wr ?_)
       refine wN (v := .ptr 0 0 5) rfl rfl rfl (v70 rfl ?_)
       iterate 3 refine wN rfl rfl rfl (v70 rfl ?_)
       refine w_split 44 rfl (fun hg44 => ?_) (fun hg44 => ?_)
       ·
        refine v70 rfl ?_
        iterate 6 refine wS (wanted_f 44 (by kernel_rfl) rfl) (v70 rfl ?_)
        iterate 2 refine wN rfl rfl rfl (v70 rfl ?_)
        refine we rfl ?_
        refine vc_true rfl ?_
        refine vs (wr ?_)
        refine wN rfl rfl rfl (v70 rfl ?_)
        refine we rfl (vc_ret (r_block (r_then (r_fn rfl ?_))))
        show some (AV.bool false) = some (AV.bool (typeOk t))
        rw [typeOk, hh, if_neg hk1, if_pos (.inl (of_decide_eq_true hg44))]
        rfl
       ·
        refine v70 rfl ?_
        refine wN (v := .ptr 0 0 5) (wanted_t 44 (by kernel_rfl) rfl) rfl rfl (v70 rfl ?_)
        refine wN (wanted_t 44 (by kernel_rfl) rfl) rfl rfl (v70 rfl ?_)
        refine wN (v := .ptr 0 0 4) (wanted_t 44 (by kernel_rfl) rfl) rfl rfl (v70 rfl ?_)
        refine wN (wanted_t 44 (by kernel_rfl) rfl) rfl rfl (v70 rfl ?_)
        first | refine wN (wanted_t 44 (by kernel_rfl) rfl) rfl rfl (v70 rfl ?_) | refine x_len (wanted_t 44 (by kernel_rfl) rfl) rfl ‹_› Tryz.underlying60 rfl (v70 rfl ?_)
        refine wN (wanted_t 44 (by kernel_rfl) rfl) rfl rfl (v70 rfl ?_)
        iterate 2 refine wN rfl rfl rfl (v70 rfl ?_)
        refine we rfl ?_
        refine vc_cond rfl (fun hc40 => ?_) (fun hc40 => ?_)
        ·
         refine vs (wr ?_)
         refine wN rfl rfl rfl (v70 rfl ?_)
         refine we rfl (vc_ret (r_block (r_then (r_fn rfl ?_))))
         show some (AV.bool false) = some (AV.bool (typeOk t))
         rw [typeOk, hh, if_neg hk1, if_pos (.inr (by have := of_decide_eq_true hc40; omega))]
         rfl
        ·
         have hk0 : 0 ≤ t.key := by have := of_decide_eq_false hg44; omega
         have hkl : t.key.toNat < t.fields.length := by have := of_decide_eq_false hc40; omega
         obtain ⟨f, hf⟩ : ∃ f, t.fields[t.key.toNat]? = some f := ⟨_, List.getElem?_eq_getElem hkl⟩
         have hri : (lrows t.fx)[t.key.toNat]? = some [.str f.name, .int .i64 f.at_, .int .i64 f.bytes] := by rw [ht.fx.rows, List.getElem?_map, hf]; rfl
         have hfo : fieldsOk t.fields t.size = true := by simpa using hc3
         have hfb := fieldOk_bounds (fields_get hfo hf)
         have hs40 := of_decide_eq_false hg25
         refine vc_skip (n_block (n_then (vs (w_regionD (by kernel_rfl) ?_))))
         refine dN (v := .ptr 0 0 4) rfl rfl rfl (d70 rfl ?_)
         refine dN rfl rfl rfl (d70 rfl ?_)
         refine dN (v := .ptr 0 0 5) rfl rfl rfl (d70 rfl ?_)
         refine dN rfl rfl rfl (d70 rfl ?_)
         first | refine dN (v := .iptr _ [_, _, _]) rfl rfl rfl (d70 rfl ?_) | (refine y_index rfl rfl ‹_› rfl el60 (by omega) ‹_› rfl (fun bo => ?_); refine d70 rfl ?_)
         refine dN (v := .iptr _ [_, _]) rfl rfl rfl (d70 rfl ?_)
         refine dN rfl rfl rfl (d70 rfl ?_)
         refine dN (v := .ptr 0 0 4) rfl rfl rfl (d70 rfl ?_)
         refine dN rfl rfl rfl (d70 rfl ?_)
         refine dN (v := .ptr 0 0 5) rfl rfl rfl (d70 rfl ?_)
         refine dN rfl rfl rfl (d70 rfl ?_)
         first | refine dN (v := .iptr _ [_, _, _]) rfl rfl rfl (d70 rfl ?_) | (refine y_index rfl rfl ‹_› rfl el60 (by omega) ‹_› rfl (fun bo => ?_); refine d70 rfl ?_)
         refine dN (v := .iptr _ [_]) rfl rfl rfl (d70 rfl ?_)
         refine dN rfl rfl rfl (d70 rfl ?_)
         refine dN (v := .int .i64 (f.at_ + f.bytes)) rfl (int_eq (i64_small (by omega) (by omega))) rfl (d70 rfl ?_)
         refine dN (v := .ptr 0 0 2) rfl rfl rfl (d70 rfl ?_)
         iterate 3 refine dN rfl rfl rfl (d70 rfl ?_)
         refine d_end rfl (vc_ret (r_fn rfl ?_))
         show some (AV.bool (decide (f.at_ + f.bytes ≤ t.min))) = some (AV.bool (typeOk t))
         rw [typeOk, hh, if_neg hk1, if_neg (by omega), keyOk, hf]
         rfl
end Go.Vi
namespace Go.Vi
open Go Go.Vi Go.Proofs
attribute [local irreducible] vops vopsD vc
def fieldOkR (size : Int) (f : PF) : Bool := !(!isName f.name || decide (f.at_ < 0) || decide (f.at_ > size) || decide (f.bytes < 1) || decide (f.bytes > size - f.at_))
def fieldAtR (fs : List PF) (size : Int) (i : Nat) : Bool := match fs[i]? with
 | some f => fieldOkR size f && !twice (fs.take i) f.name
 | none => false
def fieldsAllR (fs : List PF) (size : Int) : Bool := (List.range fs.length).all (fieldAtR fs size)
def refFields (t : PT) : Bool := fieldsAllR t.fields t.size && !(decide (t.key < -1) || decide (t.key ≥ (t.fields.length : Int)) || (decide (t.key < 0) && t.unique)) && (decide ((t.fields.length : Int) ≤ 5) && (decide (t.key < 0) || keyOk t))
theorem rfields_no {fs : List PF} {size : Int} {i : Nat} {f : PF} (hf : fs[i]? = some f) (h : (fieldOkR size f && !twice (fs.take i) f.name) = false) : fieldsAllR fs size = false := by
 have hlt : i < fs.length := (List.getElem?_eq_some_iff.1 hf).1
 unfold fieldsAllR
 rw [List.all_eq_false]
 exact ⟨i, List.mem_range.2 hlt, by simp only [fieldAtR, hf, h]; simp⟩
theorem rfields_all {fs : List PF} {size : Int} {i : Nat} (h : ∀ j, j < i → fieldAtR fs size j = true) (hi : fs.length ≤ i) : fieldsAllR fs size = true :=
 List.all_eq_true.2 fun j hj => h j (by have := List.mem_range.1 hj; omega)
theorem rfields_get {fs : List PF} {size : Int} {i : Nat} {f : PF} (h : fieldsAllR fs size = true) (hf : fs[i]? = some f) : 0 ≤ f.at_ ∧ f.at_ ≤ size ∧ 1 ≤ f.bytes ∧ f.at_ + f.bytes ≤ size := by
 have := List.all_eq_true.1 h i (List.mem_range.2 (List.getElem?_eq_some_iff.1 hf).1)
 simp only [fieldAtR, hf, Bool.and_eq_true] at this
 have := this.1
 simp only [fieldOkR, Bool.not_eq_true', Bool.or_eq_false_iff, decide_eq_false_iff_not] at this
 omega
theorem twice_yes {fs : List PF} {i k : Nat} {g : PF} {n : ByteArray} (hk : k < i) (hg : fs[k]? = some g) (h : seq g.name n = true) : twice (fs.take i) n = true := by
 unfold twice
 rw [List.any_eq_true]
 exact ⟨g, List.mem_of_getElem? (i := k) (by rw [List.getElem?_take, if_pos hk]; exact hg), h⟩
theorem twice_no {fs : List PF} {i : Nat} {n : ByteArray} (h : ∀ j g, j < i → fs[j]? = some g → seq g.name n = false) : twice (fs.take i) n = false := by
 unfold twice
 rw [List.any_eq_false]
 intro g hg
 obtain ⟨j, hj⟩ := List.mem_iff_getElem?.1 hg
 rw [List.getElem?_take] at hj
 split at hj
 · rename_i hji
   simp [h j g hji hj]
 · cases hj
set_option maxHeartbeats 4000000 in
theorem zRefFields (G : Glob) (t : PT) (ht : TypeIs t) (h1 : 1 ≤ t.size) (h40 : t.size ≤ 40) : Vi.Fn Tryz.prog G 87 [.agg (encT t)] (.bool (refFields t)) := by
 have hL := ht.fx.isL
 have hxl : (lrows t.fx).length = t.fields.length := by rw [ht.fx.rows]; simp
 refine fn_body (fun _ => .iso) Tryz.func87 rfl ?_
 refine vc_norm (env' := (_ :: _ :: _ :: _ :: _ :: _ :: _ :: _ :: _ :: _ :: _ :: _ :: _ :: _ :: _ :: _ :: _ :: _ :: _ :: _ :: _ :: _ :: _ :: _ :: _ :: _ :: _ :: _ :: _ :: _ :: _ :: _ :: _ :: _ :: _ :: _ :: _ :: _ :: _ :: _ :: _ :: _ :: _ :: _ :: _ :: _ :: _ :: _ :: _ :: _ :: _ :: _ :: _ :: _ :: _ :: _ :: _ :: _ :: _ :: _ :: _ :: _ :: _ :: _ :: _ :: _ :: _ :: _ :: _ :: _ :: _ :: _ :: _ :: _ :: _ :: _ :: _ :: _ :: _ :: _ :: _ :: _ :: _ :: _ :: _ :: _ :: _ :: _ :: _ :: _ :: _ :: _ :: _ :: _ :: _ :: _ :: _ :: _ :: _ :: _ :: _ :: _ :: _ :: _ :: _ :: _ :: _ :: _ :: _ :: _ :: _ :: _ :: [])) (H' := []) rfl rfl ?_
 refine vs (wr ?_)
 refine w_opH (v := .ptr 0 0 0) (env' := _) (H2 := [.arr 62 8 [[_, _, _, _, _, _, _, _]]]) rfl rfl rfl rfl (fun _ h => h) (v112 rfl ?_)
 refine wN rfl rfl rfl (v112 rfl ?_)
 refine we rfl (vs (vs (wr ?_)))
 refine wN rfl rfl rfl (v112 rfl ?_)
 refine we rfl (vc_block ?_)
 refine vc_loopU (α := { i : Nat // (∀ j, j < i → fieldAtR t.fields t.size j = true) ∧ i ≤ t.fields.length }) (fun i => ([none, none, some .undef, some (.int .i64 (i.1 : Nat))] ++ (rundef 59 ++ (rnone 49)))) (fun i => t.fields.length - i.1) ⟨0, fun j h => by omega, by omega⟩ (by repeat' first | exact trivial | refine ⟨.inr rfl, ?_⟩ | refine ⟨.inl rfl, ?_⟩ | fail) (fun _ => ⟨Nat.zero_le _, (by repeat' first | exact trivial | exact IsL.belowV ‹_› | refine ⟨?_, ?_⟩ | exact IsL.below ‹_› | (simp [valB, leafB, cellsB, IsL.below, *]; done) | (simp [valB, leafB, cellsB, IsL.below, *]; omega) | fail), (by repeat' first | exact trivial | exact IsL.below (by assumption) | refine ⟨?_, ?_⟩ | (simp [leafB]; done))⟩) ?_
 rintro ⟨i, hn, hi⟩ Y0 hY0
 refine vc_norm (env' := (_ :: _ :: _ :: (.int .i64 (i : Int)) :: _ :: _ :: _ :: _ :: _ :: _ :: _ :: _ :: _ :: _ :: _ :: _ :: _ :: _ :: _ :: _ :: _ :: _ :: _ :: _ :: _ :: _ :: _ :: _ :: _ :: _ :: _ :: _ :: _ :: _ :: _ :: _ :: _ :: _ :: _ :: _ :: _ :: _ :: _ :: _ :: _ :: _ :: _ :: _ :: _ :: _ :: _ :: _ :: _ :: _ :: _ :: _ :: _ :: _ :: _ :: _ :: _ :: _ :: _ :: _ :: _ :: _ :: _ :: _ :: _ :: _ :: _ :: _ :: _ :: _ :: _ :: _ :: _ :: _ :: _ :: _ :: _ :: _ :: _ :: _ :: _ :: _ :: _ :: _ :: _ :: _ :: _ :: _ :: _ :: _ :: _ :: _ :: _ :: _ :: _ :: _ :: _ :: _ :: _ :: _ :: _ :: _ :: _ :: _ :: _ :: _ :: _ :: _ :: [])) (H' := [.arr 62 8 [[_, _, _, _, _, _, _, _]]]) rfl rfl ?_
 refine vs (vs (wr ?_))
 refine wN rfl rfl rfl (v112 rfl ?_)
 refine wN (v := .ptr 0 0 4) rfl rfl rfl (v112 rfl ?_)
 refine wN rfl rfl rfl (v112 rfl ?_)
 first | refine wN rfl rfl rfl (v112 rfl ?_) | refine x_len rfl rfl ‹_› Tryz.underlying60 rfl (v112 rfl ?_)
 refine wN rfl rfl rfl (v112 rfl ?_)
 refine we rfl ?_
 refine vc_cond rfl (fun hc10 => ?_) (fun hc10 => ?_)
 ·
  have hlt : i < t.fields.length := by have := of_decide_eq_true hc10; omega
  obtain ⟨f, hf⟩ : ∃ f, t.fields[i]? = some f := ⟨_, List.getElem?_eq_getElem hlt⟩
  have hri : (lrows t.fx)[i]? = some [.str f.name, .int .i64 f.at_, .int .i64 f.bytes] := by rw [ht.fx.rows, List.getElem?_map, hf]; rfl
  have hfs := ht.fx.short f (List.mem_of_getElem? hf)
  refine vc_skip (n_then (vs (vc_block (vs (wr ?_)))))
  refine wN (v := .ptr 0 0 4) rfl rfl rfl (v112 rfl ?_)
  iterate 2 refine wN rfl rfl rfl (v112 rfl ?_)
  first | refine wN (v := .iptr _ [_, _, _]) rfl rfl rfl (v112 rfl ?_) | (refine x_index rfl rfl ‹_› rfl el60 (by omega) ‹_› rfl (fun bo => ?_); refine v112 rfl ?_)
  refine wN (v := .agg [_, _, _]) rfl rfl rfl (v112 rfl ?_)
  refine w_opH (v := .ptr 1 0 0) (env' := _) (H2 := [.arr 62 8 [[_, _, _, _, _, _, _, _]], .arr 117 3 [[_, _, _]]]) rfl rfl rfl rfl (fun _ h => h) (v112 rfl ?_)
  refine w_op0N (H2 := [.arr 62 8 [[_, _, _, _, _, _, _, _]], .arr 117 3 [[_, _, _]]]) rfl rfl rfl (fun _ h => h) ?_
  refine we rfl (vs (vs (wr ?_)))
  refine wN (v := .ptr 1 0 0) rfl rfl rfl (v112 rfl ?_)
  refine wN rfl rfl rfl (v112 rfl ?_)
  refine w_callI (env' := _) rfl rfl rfl (by kernel_rfl) rfl (by repeat' first | exact IsL.lend ‹_› | exact IsL.lend0 ‹_› | refine mapL_cons ?_ ?_ | refine lend_agg ?_ | rfl) (zNameR G f.name hfs) rfl (v112 rfl ?_)
  iterate 2 refine wN rfl rfl rfl (v112 rfl ?_)
  refine w_split 22 rfl (fun hg22 => ?_) (fun hg22 => ?_)
  ·
   refine v112 rfl ?_
   iterate 3 refine wS (wanted_f 22 (by kernel_rfl) rfl) (v112 rfl ?_)
   iterate 2 refine wN rfl rfl rfl (v112 rfl ?_)
   iterate 5 refine wS (wanted_f 27 (by kernel_rfl) rfl) (v112 rfl ?_)
   iterate 2 refine wN rfl rfl rfl (v112 rfl ?_)
   iterate 3 refine wS (wanted_f 34 (by kernel_rfl) rfl) (v112 rfl ?_)
   iterate 2 refine wN rfl rfl rfl (v112 rfl ?_)
   iterate 8 refine wS (wanted_f 39 (by kernel_rfl) rfl) (v112 rfl ?_)
   refine wN rfl rfl rfl (v112 rfl ?_)
   refine we rfl ?_
   refine vc_true rfl ?_
   refine vs (wr ?_)
   refine wN rfl rfl rfl (v112 rfl ?_)
   refine we rfl (vc_ret (r_then (r_block (r_then (r_then (r_block (r_then (r_fn rfl ?_))))))))
   have hb : (fieldOkR t.size f && !twice (t.fields.take i) f.name) = false := by
    have hk : fieldOkR t.size f = false := by simp only [fieldOkR, hg22, Bool.true_or, Bool.or_true, Bool.not_true, Bool.not_false]
    rw [hk]; rfl
   show some (AV.bool false) = some (AV.bool (refFields t))
   rw [refFields, rfields_no hf hb]
   rfl
  ·
   refine v112 rfl ?_
   refine wN (v := .ptr 1 0 1) (wanted_t 22 (by kernel_rfl) rfl) rfl rfl (v112 rfl ?_)
   iterate 2 refine wN (wanted_t 22 (by kernel_rfl) rfl) rfl rfl (v112 rfl ?_)
   iterate 2 refine wN rfl rfl rfl (v112 rfl ?_)
   refine w_split 27 rfl (fun hg27 => ?_) (fun hg27 => ?_)
   ·
    refine v112 rfl ?_
    iterate 5 refine wS (wanted_f 27 (by kernel_rfl) rfl) (v112 rfl ?_)
    iterate 2 refine wN rfl rfl rfl (v112 rfl ?_)
    iterate 3 refine wS (wanted_f 34 (by kernel_rfl) rfl) (v112 rfl ?_)
    iterate 2 refine wN rfl rfl rfl (v112 rfl ?_)
    iterate 8 refine wS (wanted_f 39 (by kernel_rfl) rfl) (v112 rfl ?_)
    refine wN rfl rfl rfl (v112 rfl ?_)
    refine we rfl ?_
    refine vc_true rfl ?_
    refine vs (wr ?_)
    refine wN rfl rfl rfl (v112 rfl ?_)
    refine we rfl (vc_ret (r_then (r_block (r_then (r_then (r_block (r_then (r_fn rfl ?_))))))))
    have hb : (fieldOkR t.size f && !twice (t.fields.take i) f.name) = false := by
     have hk : fieldOkR t.size f = false := by simp only [fieldOkR, hg27, Bool.true_or, Bool.or_true, Bool.not_true, Bool.not_false]
     rw [hk]; rfl
    show some (AV.bool false) = some (AV.bool (refFields t))
    rw [refFields, rfields_no hf hb]
    rfl
   ·
    refine v112 rfl ?_
    refine wN (v := .ptr 1 0 1) (wanted_t 27 (by kernel_rfl) rfl) rfl rfl (v112 rfl ?_)
    refine wN (wanted_t 27 (by kernel_rfl) rfl) rfl rfl (v112 rfl ?_)
    refine wN (v := .ptr 0 0 3) (wanted_t 27 (by kernel_rfl) rfl) rfl rfl (v112 rfl ?_)
    iterate 2 refine wN (wanted_t 27 (by kernel_rfl) rfl) rfl rfl (v112 rfl ?_)
    iterate 2 refine wN rfl rfl rfl (v112 rfl ?_)
    refine w_split 34 rfl (fun hg34 => ?_) (fun hg34 => ?_)
    ·
     refine v112 rfl ?_
     iterate 3 refine wS (wanted_f 34 (by kernel_rfl) rfl) (v112 rfl ?_)
     iterate 2 refine wN rfl rfl rfl (v112 rfl ?_)
     iterate 8 refine wS (wanted_f 39 (by kernel_rfl) rfl) (v112 rfl ?_)
     refine wN rfl rfl rfl (v112 rfl ?_)
     refine we rfl ?_
     refine vc_true rfl ?_
     refine vs (wr ?_)
     refine wN rfl rfl rfl (v112 rfl ?_)
     refine we rfl (vc_ret (r_then (r_block (r_then (r_then (r_block (r_then (r_fn rfl ?_))))))))
     have hb : (fieldOkR t.size f && !twice (t.fields.take i) f.name) = false := by
      have hk : fieldOkR t.size f = false := by simp only [fieldOkR, hg34, Bool.true_or, Bool.or_true, Bool.not_true, Bool.not_false]
      rw [hk]; rfl
     show some (AV.bool false) = some (AV.bool (refFields t))
     rw [refFields, rfields_no hf hb]
     rfl
    ·
     refine v112 rfl ?_
     refine wN (v := .ptr 1 0 2) (wanted_t 34 (by kernel_rfl) rfl) rfl rfl (v112 rfl ?_)
     iterate 2 refine wN (wanted_t 34 (by kernel_rfl) rfl) rfl rfl (v112 rfl ?_)
     iterate 2 refine wN rfl rfl rfl (v112 rfl ?_)
     refine w_split 39 rfl (fun hg39 => ?_) (fun hg39 => ?_)
     ·
      refine v112 rfl ?_
      iterate 8 refine wS (wanted_f 39 (by kernel_rfl) rfl) (v112 rfl ?_)
      refine wN rfl rfl rfl (v112 rfl ?_)
      refine we rfl ?_
      refine vc_true rfl ?_
      refine vs (wr ?_)
      refine wN rfl rfl rfl (v112 rfl ?_)
      refine we rfl (vc_ret (r_then (r_block (r_then (r_then (r_block (r_then (r_fn rfl ?_))))))))
      have hb : (fieldOkR t.size f && !twice (t.fields.take i) f.name) = false := by
       have hk : fieldOkR t.size f = false := by simp only [fieldOkR, hg39, Bool.true_or, Bool.or_true, Bool.not_true, Bool.not_false]
       rw [hk]; rfl
      show some (AV.bool false) = some (AV.bool (refFields t))
      rw [refFields, rfields_no hf hb]
      rfl
     ·
      refine v112 rfl ?_
      refine wN (v := .ptr 1 0 2) (wanted_t 39 (by kernel_rfl) rfl) rfl rfl (v112 rfl ?_)
      refine wN (wanted_t 39 (by kernel_rfl) rfl) rfl rfl (v112 rfl ?_)
      refine wN (v := .ptr 0 0 3) (wanted_t 39 (by kernel_rfl) rfl) rfl rfl (v112 rfl ?_)
      refine wN (wanted_t 39 (by kernel_rfl) rfl) rfl rfl (v112 rfl ?_)
      refine wN (v := .ptr 1 0 1) (wanted_t 39 (by kernel_rfl) rfl) rfl rfl (v112 rfl ?_)
      refine wN (wanted_t 39 (by kernel_rfl) rfl) rfl rfl (v112 rfl ?_)
      refine wN (v := .int .i64 (t.size - f.at_)) (wanted_t 39 (by kernel_rfl) rfl) (int_eq (i64_small (by have := of_decide_eq_false hg27; have := of_decide_eq_false hg34; omega) (by have := of_decide_eq_false hg27; omega))) rfl (v112 rfl ?_)
      refine wN (wanted_t 39 (by kernel_rfl) rfl) rfl rfl (v112 rfl ?_)
      refine wN rfl rfl rfl (v112 rfl ?_)
      refine we rfl ?_
      refine vc_cond rfl (fun hc48 => ?_) (fun hc48 => ?_)
      ·
       refine vs (wr ?_)
       refine wN rfl rfl rfl (v112 rfl ?_)
       refine we rfl (vc_ret (r_then (r_block (r_then (r_then (r_block (r_then (r_fn rfl ?_))))))))
       have hb : (fieldOkR t.size f && !twice (t.fields.take i) f.name) = false := by
        have hk : fieldOkR t.size f = false := by simp only [fieldOkR, hc48, Bool.true_or, Bool.or_true, Bool.not_true, Bool.not_false]
        rw [hk]; rfl
       show some (AV.bool false) = some (AV.bool (refFields t))
       rw [refFields, rfields_no hf hb]
       rfl
      ·
       have hk : fieldOkR t.size f = true := by simp only [fieldOkR, hg22, hg27, hg34, hg39, hc48, Bool.or_false, Bool.not_false]
       refine vc_skip (n_then (vs (wr ?_)))
       refine wN rfl rfl rfl (v112 rfl ?_)
       refine we rfl (vc_block ?_)
       refine vc_loopU (α := { k : Nat // (∀ j g, j < k → t.fields[j]? = some g → seq g.name f.name = false) ∧ k ≤ i }) (fun k => ([none, none, some .undef, none, none, some (.int .i64 (k.1 : Nat))] ++ (rnone 43 ++ (rundef 14 ++ (rnone 49))))) (fun k => i - k.1) ⟨0, fun j g h => by omega, by omega⟩ (by repeat' first | exact trivial | refine ⟨.inr rfl, ?_⟩ | refine ⟨.inl rfl, ?_⟩ | fail) (fun _ => ⟨Nat.zero_le _, (by repeat' first | exact trivial | exact IsL.belowV ‹_› | refine ⟨?_, ?_⟩ | exact IsL.below ‹_› | (simp [valB, leafB, cellsB, IsL.below, *]; done) | (simp [valB, leafB, cellsB, IsL.below, *]; omega) | fail), (by repeat' first | exact trivial | exact IsL.below (by assumption) | refine ⟨?_, ?_⟩ | (simp [leafB]; done))⟩) ?_
       rintro ⟨k, hkn, hki⟩ Y1 hY1
       refine vc_norm (env' := (_ :: _ :: _ :: _ :: _ :: (.int .i64 (k : Int)) :: _ :: _ :: _ :: _ :: _ :: _ :: _ :: _ :: _ :: _ :: _ :: _ :: _ :: _ :: _ :: _ :: _ :: _ :: _ :: _ :: _ :: _ :: _ :: _ :: _ :: _ :: _ :: _ :: _ :: _ :: _ :: _ :: _ :: _ :: _ :: _ :: _ :: _ :: _ :: _ :: _ :: _ :: _ :: _ :: _ :: _ :: _ :: _ :: _ :: _ :: _ :: _ :: _ :: _ :: _ :: _ :: _ :: _ :: _ :: _ :: _ :: _ :: _ :: _ :: _ :: _ :: _ :: _ :: _ :: _ :: _ :: _ :: _ :: _ :: _ :: _ :: _ :: _ :: _ :: _ :: _ :: _ :: _ :: _ :: _ :: _ :: _ :: _ :: _ :: _ :: _ :: _ :: _ :: _ :: _ :: _ :: _ :: _ :: _ :: _ :: _ :: _ :: _ :: _ :: _ :: _ :: [])) (H' := [.arr 62 8 [[_, _, _, _, _, _, _, _]], .arr 117 3 [[_, _, _]]]) rfl rfl ?_
       refine vs (vs (wr ?_))
       iterate 3 refine wN rfl rfl rfl (v112 rfl ?_)
       refine we rfl ?_
       refine vc_cond rfl (fun hc51 => ?_) (fun hc51 => ?_)
       ·
        have hlk : k < i := by have := of_decide_eq_true hc51; omega
        obtain ⟨g, hg⟩ : ∃ g, t.fields[k]? = some g := ⟨_, List.getElem?_eq_getElem (by omega)⟩
        have hrk : (lrows t.fx)[k]? = some [.str g.name, .int .i64 g.at_, .int .i64 g.bytes] := by rw [ht.fx.rows, List.getElem?_map, hg]; rfl
        refine vc_skip (n_then (vs (vc_block (vs (w_regionD (by kernel_rfl) ?_)))))
        refine dN (v := .ptr 0 0 4) rfl rfl rfl (d112 rfl ?_)
        iterate 2 refine dN rfl rfl rfl (d112 rfl ?_)
        first | refine dN (v := .iptr _ [_, _, _]) rfl rfl rfl (d112 rfl ?_) | (refine y_index rfl rfl ‹_› rfl el60 (by omega) ‹_› rfl (fun bo => ?_); refine d112 rfl ?_)
        refine dN (v := .iptr _ [_, _, _]) rfl rfl rfl (d112 rfl ?_)
        refine dN rfl rfl rfl (d112 rfl ?_)
        refine dN (v := .ptr 1 0 0) rfl rfl rfl (d112 rfl ?_)
        iterate 2 refine dN rfl rfl rfl (d112 rfl ?_)
        refine d_end rfl ?_
        refine vc_cond rfl (fun hc62 => ?_) (fun hc62 => ?_)
        ·
         refine vs (wr ?_)
         refine wN rfl rfl rfl (v112 rfl ?_)
         refine we rfl (vc_ret (r_block (r_then (r_then (r_block (r_block (r_then (r_then (r_block (r_then (r_fn rfl ?_)))))))))))
         have hb : (fieldOkR t.size f && !twice (t.fields.take i) f.name) = false := by rw [twice_yes hlk hg hc62]; simp
         show some (AV.bool false) = some (AV.bool (refFields t))
         rw [refFields, rfields_no hf hb]
         rfl
        ·
         refine vc_skip (n_block (n_then (wr ?_)))
         iterate 3 refine wN rfl rfl rfl (v112 rfl ?_)
         refine we rfl ?_
         refine hY1 ⟨k + 1, fun j g' hj hg' => by by_cases hjk : j = k; subst hjk; rw [hg] at hg'; cases hg'; exact hc62; exact hkn j g' (by omega) hg', hlk⟩ (by simp only; omega) _ _ _ ?_ rfl
         repeat' first | exact trivial | refine ⟨.inr rfl, ?_⟩ | refine ⟨.inl rfl, ?_⟩ | refine ⟨.inl ?_, ?_⟩ | fail
         all_goals first | (exact (int_succ (by have := ht.fx.len; omega)).symm)
       ·
        have htw : twice (t.fields.take i) f.name = false := twice_no (fun j g hj hg => hkn j g (by have := of_decide_eq_false hc51; omega) hg)
        refine vc_exit (x_then (x_then (x_same (n_block (n_then (wr ?_))))))
        iterate 3 refine wN rfl rfl rfl (v112 rfl ?_)
        refine we rfl ?_
        refine hY0 ⟨i + 1, upto_all hn (by simp only [fieldAtR, hf, hk, htw]; rfl), hlt⟩ (by simp only; omega) _ _ _ ?_ rfl
        repeat' first | exact trivial | refine ⟨.inr rfl, ?_⟩ | refine ⟨.inl rfl, ?_⟩ | refine ⟨.inl ?_, ?_⟩ | fail
        all_goals first | (exact (int_succ (by have := ht.fx.len; omega)).symm)
 ·
  have hge : ¬ i < t.fields.length := by have := of_decide_eq_false hc10; omega
  have hA := rfields_all hn (by omega)
  refine vc_exit (x_then (x_then (x_same (n_then (vs (vs (wr ?_)))))))
  refine wN (v := .ptr 0 0 5) rfl rfl rfl (v112 rfl ?_)
  iterate 3 refine wN rfl rfl rfl (v112 rfl ?_)
  refine w_split 66 rfl (fun hg66 => ?_) (fun hg66 => ?_)
  ·
   refine v112 rfl ?_
   iterate 6 refine wS (wanted_f 66 (by kernel_rfl) rfl) (v112 rfl ?_)
   iterate 2 refine wN rfl rfl rfl (v112 rfl ?_)
   iterate 4 refine wS (wanted_f 74 (by kernel_rfl) rfl) (v112 rfl ?_)
   iterate 2 refine wS (wanted_k 78 (by kernel_rfl) rfl) (v112 rfl ?_)
   refine wS (wanted_f 74 (by kernel_rfl) rfl) (v112 rfl ?_)
   refine wN rfl rfl rfl (v112 rfl ?_)
   refine we rfl ?_
   refine vc_true rfl ?_
   refine vs (wr ?_)
   refine wN rfl rfl rfl (v112 rfl ?_)
   refine we rfl (vc_ret (r_then (r_fn rfl ?_)))
   show some (AV.bool false) = some (AV.bool (refFields t))
   have he : refFields t = false := by simp only [refFields, hA, hg66, Bool.true_and, Bool.and_true, Bool.true_or, Bool.or_true, Bool.false_or, Bool.or_false, Bool.and_false, Bool.false_and, Bool.not_true, Bool.not_false]
   rw [he]
  ·
   refine v112 rfl ?_
   refine wN (v := .ptr 0 0 5) (wanted_t 66 (by kernel_rfl) rfl) rfl rfl (v112 rfl ?_)
   refine wN (wanted_t 66 (by kernel_rfl) rfl) rfl rfl (v112 rfl ?_)
   refine wN (v := .ptr 0 0 4) (wanted_t 66 (by kernel_rfl) rfl) rfl rfl (v112 rfl ?_)
   refine wN (wanted_t 66 (by kernel_rfl) rfl) rfl rfl (v112 rfl ?_)
   first | refine wN (wanted_t 66 (by kernel_rfl) rfl) rfl rfl (v112 rfl ?_) | refine x_len (wanted_t 66 (by kernel_rfl) rfl) rfl ‹_› Tryz.underlying60 rfl (v112 rfl ?_)
   refine wN (wanted_t 66 (by kernel_rfl) rfl) rfl rfl (v112 rfl ?_)
   iterate 2 refine wN rfl rfl rfl (v112 rfl ?_)
   refine w_split 74 rfl (fun hg74 => ?_) (fun hg74 => ?_)
   ·
    rw [hxl] at hg74
    refine v112 rfl ?_
    iterate 4 refine wS (wanted_f 74 (by kernel_rfl) rfl) (v112 rfl ?_)
    iterate 2 refine wS (wanted_k 78 (by kernel_rfl) rfl) (v112 rfl ?_)
    refine wS (wanted_f 74 (by kernel_rfl) rfl) (v112 rfl ?_)
    refine wN rfl rfl rfl (v112 rfl ?_)
    refine we rfl ?_
    refine vc_true rfl ?_
    refine vs (wr ?_)
    refine wN rfl rfl rfl (v112 rfl ?_)
    refine we rfl (vc_ret (r_then (r_fn rfl ?_)))
    show some (AV.bool false) = some (AV.bool (refFields t))
    have he : refFields t = false := by simp only [refFields, hA, hg74, Bool.true_and, Bool.and_true, Bool.true_or, Bool.or_true, Bool.false_or, Bool.or_false, Bool.and_false, Bool.false_and, Bool.not_true, Bool.not_false]
    rw [he]
   ·
    rw [hxl] at hg74
    refine v112 rfl ?_
    refine wN (v := .ptr 0 0 5) (wanted_t 74 (by kernel_rfl) rfl) rfl rfl (v112 rfl ?_)
    iterate 3 refine wN (wanted_t 74 (by kernel_rfl) rfl) rfl rfl (v112 rfl ?_)
    refine w_split 78 rfl (fun hg78 => ?_) (fun hg78 => ?_)
    ·
     refine v112 rfl ?_
     refine wN (v := .ptr 0 0 6) (wanted_t 78 (by kernel_rfl) rfl) rfl rfl (v112 rfl ?_)
     refine wN (wanted_t 78 (by kernel_rfl) rfl) rfl rfl (v112 rfl ?_)
     refine wN (wanted_t 74 (by kernel_rfl) rfl) rfl rfl (v112 rfl ?_)
     refine wN rfl rfl rfl (v112 rfl ?_)
     refine we rfl ?_
     refine vc_cond rfl (fun hc82 => ?_) (fun hc82 => ?_)
     ·
      refine vs (wr ?_)
      refine wN rfl rfl rfl (v112 rfl ?_)
      refine we rfl (vc_ret (r_then (r_fn rfl ?_)))
      show some (AV.bool false) = some (AV.bool (refFields t))
      have he : refFields t = false := by simp only [refFields, hA, hg78, hc82, Bool.true_and, Bool.and_true, Bool.true_or, Bool.or_true, Bool.false_or, Bool.or_false, Bool.and_false, Bool.false_and, Bool.not_true, Bool.not_false]
      rw [he]
     ·
      refine vc_skip (n_then (vs (w_regionD (by kernel_rfl) ?_)))
      refine dN (v := .ptr 0 0 4) rfl rfl rfl (d112 rfl ?_)
      refine dN rfl rfl rfl (d112 rfl ?_)
      first | refine dN rfl rfl rfl (d112 rfl ?_) | refine y_len rfl rfl ‹_› Tryz.underlying60 rfl (d112 rfl ?_)
      iterate 2 refine dN rfl rfl rfl (d112 rfl ?_)
      refine d_split 87 rfl (fun hg87 => ?_) (fun hg87 => ?_)
      ·
       rw [hxl] at hg87
       refine d112 rfl ?_
       refine dN (v := .ptr 0 0 5) (wanted_t 87 (by kernel_rfl) rfl) rfl rfl (d112 rfl ?_)
       iterate 3 refine dN (wanted_t 87 (by kernel_rfl) rfl) rfl rfl (d112 rfl ?_)
       refine d_split 91 rfl (fun hg91 => ?_) (fun hg91 => ?_)
       ·
        refine d112 rfl ?_
        iterate 18 refine dS (wanted_f 91 (by kernel_rfl) rfl) (d112 rfl ?_)
        refine dN (wanted_t 87 (by kernel_rfl) rfl) rfl rfl (d112 rfl ?_)
        iterate 2 refine dN rfl rfl rfl (d112 rfl ?_)
        refine d_end rfl (vc_ret (r_fn rfl ?_))
        show some (AV.bool true) = some (AV.bool (refFields t))
        have he : refFields t = true := by simp only [refFields, hA, hg66, hg74, hg78, hc82, hg87, Bool.true_and, Bool.and_true, Bool.true_or, Bool.or_true, Bool.false_or, Bool.or_false, Bool.and_false, Bool.false_and, Bool.not_true, Bool.not_false]
        rw [he]
       ·
        rw [hg78] at hg91
        cases hg91
      ·
       rw [hxl] at hg87
       refine d112 rfl ?_
       iterate 4 refine dS (wanted_f 87 (by kernel_rfl) rfl) (d112 rfl ?_)
       iterate 18 refine dS (wanted_k 91 (by kernel_rfl) rfl) (d112 rfl ?_)
       refine dS (wanted_f 87 (by kernel_rfl) rfl) (d112 rfl ?_)
       iterate 2 refine dN rfl rfl rfl (d112 rfl ?_)
       refine d_end rfl (vc_ret (r_fn rfl ?_))
       show some (AV.bool false) = some (AV.bool (refFields t))
       have he : refFields t = false := by simp only [refFields, hA, hg87, Bool.true_and, Bool.and_true, Bool.true_or, Bool.or_true, Bool.false_or, Bool.or_false, Bool.and_false, Bool.false_and, Bool.not_true, Bool.not_false]
       rw [he]
    ·
     refine v112 rfl ?_
     iterate 2 refine wS (wanted_f 78 (by kernel_rfl) rfl) (v112 rfl ?_)
     refine wN (wanted_t 74 (by kernel_rfl) rfl) rfl rfl (v112 rfl ?_)
     refine wN rfl rfl rfl (v112 rfl ?_)
     refine we rfl ?_
     refine vc_false rfl ?_
     refine vc_skip (n_then (vs (w_regionD (by kernel_rfl) ?_)))
     refine dN (v := .ptr 0 0 4) rfl rfl rfl (d112 rfl ?_)
     refine dN rfl rfl rfl (d112 rfl ?_)
     first | refine dN rfl rfl rfl (d112 rfl ?_) | refine y_len rfl rfl ‹_› Tryz.underlying60 rfl (d112 rfl ?_)
     iterate 2 refine dN rfl rfl rfl (d112 rfl ?_)
     refine d_split 87 rfl (fun hg87 => ?_) (fun hg87 => ?_)
     ·
      rw [hxl] at hg87
      refine d112 rfl ?_
      refine dN (v := .ptr 0 0 5) (wanted_t 87 (by kernel_rfl) rfl) rfl rfl (d112 rfl ?_)
      iterate 3 refine dN (wanted_t 87 (by kernel_rfl) rfl) rfl rfl (d112 rfl ?_)
      refine d_split 91 rfl (fun hg91 => ?_) (fun hg91 => ?_)
      ·
       rw [hg78] at hg91
       cases hg91
      ·
       have hk0 : 0 ≤ t.key := by have := of_decide_eq_false hg78; omega
       have hkl : t.key.toNat < t.fields.length := by have := of_decide_eq_false hg74; omega
       obtain ⟨f, hf⟩ : ∃ f, t.fields[t.key.toNat]? = some f := ⟨_, List.getElem?_eq_getElem hkl⟩
       have hri : (lrows t.fx)[t.key.toNat]? = some [.str f.name, .int .i64 f.at_, .int .i64 f.bytes] := by rw [ht.fx.rows, List.getElem?_map, hf]; rfl
       have hfb := rfields_get hA hf
       have hko : keyOk t = decide (f.at_ + f.bytes ≤ t.min) := by rw [keyOk, hf]
       refine d112 rfl ?_
       refine dN (v := .ptr 0 0 4) (wanted_t 91 (by kernel_rfl) rfl) rfl rfl (d112 rfl ?_)
       refine dN (wanted_t 91 (by kernel_rfl) rfl) rfl rfl (d112 rfl ?_)
       refine dN (v := .ptr 0 0 5) (wanted_t 91 (by kernel_rfl) rfl) rfl rfl (d112 rfl ?_)
       refine dN (wanted_t 91 (by kernel_rfl) rfl) rfl rfl (d112 rfl ?_)
       first | refine dN (v := .iptr _ [_, _, _]) (wanted_t 91 (by kernel_rfl) rfl) rfl rfl (d112 rfl ?_) | (refine y_index (wanted_t 91 (by kernel_rfl) rfl) rfl ‹_› rfl el60 (by omega) ‹_› rfl (fun bo => ?_); refine d112 rfl ?_)
       refine dN (v := .iptr _ [_, _]) (wanted_t 91 (by kernel_rfl) rfl) rfl rfl (d112 rfl ?_)
       refine dN (wanted_t 91 (by kernel_rfl) rfl) rfl rfl (d112 rfl ?_)
       refine dN (v := .ptr 0 0 4) (wanted_t 91 (by kernel_rfl) rfl) rfl rfl (d112 rfl ?_)
       refine dN (wanted_t 91 (by kernel_rfl) rfl) rfl rfl (d112 rfl ?_)
       refine dN (v := .ptr 0 0 5) (wanted_t 91 (by kernel_rfl) rfl) rfl rfl (d112 rfl ?_)
       refine dN (wanted_t 91 (by kernel_rfl) rfl) rfl rfl (d112 rfl ?_)
       first | refine dN (v := .iptr _ [_, _, _]) (wanted_t 91 (by kernel_rfl) rfl) rfl rfl (d112 rfl ?_) | (refine y_index (wanted_t 91 (by kernel_rfl) rfl) rfl ‹_› rfl el60 (by omega) ‹_› rfl (fun bo => ?_); refine d112 rfl ?_)
       refine dN (v := .iptr _ [_]) (wanted_t 91 (by kernel_rfl) rfl) rfl rfl (d112 rfl ?_)
       refine dN (wanted_t 91 (by kernel_rfl) rfl) rfl rfl (d112 rfl ?_)
       refine dN (v := .int .i64 (f.at_ + f.bytes)) (wanted_t 91 (by kernel_rfl) rfl) (int_eq (i64_small (by omega) (by omega))) rfl (d112 rfl ?_)
       refine dN (v := .ptr 0 0 2) (wanted_t 91 (by kernel_rfl) rfl) rfl rfl (d112 rfl ?_)
       iterate 2 refine dN (wanted_t 91 (by kernel_rfl) rfl) rfl rfl (d112 rfl ?_)
       refine dN (wanted_t 87 (by kernel_rfl) rfl) rfl rfl (d112 rfl ?_)
       iterate 2 refine dN rfl rfl rfl (d112 rfl ?_)
       refine d_end rfl (vc_ret (r_fn rfl ?_))
       show some (AV.bool (decide (f.at_ + f.bytes ≤ t.min))) = some (AV.bool (refFields t))
       have he : refFields t = decide (f.at_ + f.bytes ≤ t.min) := by simp only [refFields, hA, hg66, hg74, hg78, hg87, hko, Bool.true_and, Bool.and_true, Bool.or_false, Bool.false_or, Bool.false_and, Bool.not_false]
       rw [he]
     ·
      rw [hxl] at hg87
      refine d112 rfl ?_
      iterate 4 refine dS (wanted_f 87 (by kernel_rfl) rfl) (d112 rfl ?_)
      iterate 18 refine dS (wanted_k 91 (by kernel_rfl) rfl) (d112 rfl ?_)
      refine dS (wanted_f 87 (by kernel_rfl) rfl) (d112 rfl ?_)
      iterate 2 refine dN rfl rfl rfl (d112 rfl ?_)
      refine d_end rfl (vc_ret (r_fn rfl ?_))
      show some (AV.bool false) = some (AV.bool (refFields t))
      have he : refFields t = false := by simp only [refFields, hA, hg87, Bool.true_and, Bool.and_true, Bool.true_or, Bool.or_true, Bool.false_or, Bool.or_false, Bool.and_false, Bool.false_and, Bool.not_true, Bool.not_false]
      rw [he]
end Go.Vi
