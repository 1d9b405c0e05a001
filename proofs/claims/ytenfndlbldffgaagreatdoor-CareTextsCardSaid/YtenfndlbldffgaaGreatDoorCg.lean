/- Part of the proof of the tied card of CareTexts: Unload and Reload. Conditions: none of its own. -/
import Derived.Test.YtenfndlbldffgaaGreatDoorCf
set_option autoImplicit false
set_option linter.unusedVariables false
set_option linter.unusedSimpArgs false
set_option maxRecDepth 100000
namespace Go.Vi
open Go Go.Vi Go.Proofs
attribute [local irreducible] vops vopsD vc
theorem g_load1 {P : Program} {H : Hp} {t T : TypeId} {l k : Nat} {cs : List AV} {x : AV} (h1 : H[l]? = some (.one T cs)) (h3 : ldCells P t (cs.drop k) = some x) : (vload P H t (.ptr l 0 k)).map (·, H) = some (x, H) := by
 simp only [vload, h1, if_true, h3, Option.map_some]
theorem g_store1 {P : Program} {H : Hp} {t T : TypeId} {l k n : Nat} {r cs : List AV} {x : AV} (h1 : H[l]? = some (.one T r)) (h3 : x.cells = some cs) (h4 : szOf P t = some n) (h5 : cs.length = n ∧ k + n ≤ r.length ∧ n ≠ 0) :
 (vstore P H t (.ptr l 0 k) x).map (AV.tup [], ·) = some (AV.tup [], H.set l (.one T (setC r k cs))) := by
 simp only [vstore, h1, h3, h4]
 rw [if_pos ⟨h5.1, h5.2.1, h5.2.2, trivial⟩]
 rfl
theorem sz67 : szOf Tryz.prog 67 = some 1 := by kernel_rfl
theorem sz68 : szOf Tryz.prog 68 = some 1 := by kernel_rfl
theorem ld67 (x y : AV) : ldCells Tryz.prog 67 [x, y] = some x := by kernel_rfl
theorem ld68 (y : AV) : ldCells Tryz.prog 68 [y] = some y := by kernel_rfl
theorem info70 : ∃ j, Tryz.prog.info? 70 = some j ∧ j.size ≠ 0 := by
 have h : (Tryz.prog.info? 70).map (·.size) = some 2 := by kernel_rfl
 obtain ⟨j, h1, h2⟩ := Option.map_eq_some_iff.1 h
 exact ⟨j, h1, by rw [h2]; decide⟩
theorem lies70 : liesAt Tryz.prog Tryz.prog.depth 70 (2 / Tryz.prog.cellsOf 70) 0 70 1 = true := by kernel_rfl
theorem conv_up {H : Hp} {lb : Nat} {x y : AV} (hB : H[lb]? = some (.one 70 [x, y])) : (orX (vconv Tryz.prog H 67 153 (.ptr lb 0 0)) (vconvX Tryz.prog H 67 153 (.ptr lb 0 0))).map (·, H) = some (.ptr lb 0 0, H) := by
 obtain ⟨j, hj, h0⟩ := info70
 have h1 : vconv Tryz.prog H 67 153 (.ptr lb 0 0) = none := by
  simp only [vconv, Tryz.underlying67, Tryz.underlying153, vconvInt]
 have h2 : vconvX Tryz.prog H 67 153 (.ptr lb 0 0) = some (.ptr lb 0 0) := by
  simp only [vconvX, hB, Tryz.underlying67, Tryz.underlying153, hj]
  rw [if_pos ⟨h0, by simp⟩]
 rw [h1, h2]
 rfl
theorem conv_down {H : Hp} {lb : Nat} {x y : AV} (hB : H[lb]? = some (.one 70 [x, y])) : (orX (vconv Tryz.prog H 153 67 (.ptr lb 0 0)) (vconvX Tryz.prog H 153 67 (.ptr lb 0 0))).map (·, H) = some (.ptr lb 0 0, H) := by
 obtain ⟨j, hj, h0⟩ := info70
 have h1 : vconv Tryz.prog H 153 67 (.ptr lb 0 0) = none := by
  simp only [vconv, Tryz.underlying67, Tryz.underlying153, vconvInt]
 have h2 : vconvX Tryz.prog H 153 67 (.ptr lb 0 0) = some (.ptr lb 0 0) := by
  simp only [vconvX, hB, Tryz.underlying67, Tryz.underlying153, hj]
  rw [if_pos (by have := lies70; simpa using this)]
 rw [h1, h2]
 rfl
theorem ptr_ne {H : Hp} {lb : Nat} : (orX (vbin Tryz.prog .neq 67 (.ptr lb 0 0) (.ptr lb 0 0)) (vbinX Tryz.prog .neq 67 (.ptr lb 0 0) (.ptr lb 0 0))).map (·, H) = some (.bool false, H) := by
 obtain ⟨j, hj, h0⟩ := info70
 have h1 : vbin Tryz.prog .neq 67 (.ptr lb 0 0) (.ptr lb 0 0) = none := by
  simp only [vbin, veqNil, Tryz.underlying67, Option.map_none]
 have h2 : vsame Tryz.prog 67 (.ptr lb 0 0) (.ptr lb 0 0) = some true := by
  simp only [vsame, Tryz.underlying67, hj, Option.isSome_some, and_self, if_true]
 rw [h1]
 simp only [orX, vbinX, h2, orB]
 rfl
theorem esc_val (g : Nat) (h : noEsc Tryz.prog g = true) (lb : Nat) : vext Tryz.prog g [.ptr lb 0 0] = some (.ptr lb 0 0) := by
 simp only [vext, h, if_true]
theorem slice_data {H : Hp} {K n : Nat} (h : n ≠ 0) : (vsliceData (.row false K 0 n)).map (·, H) = some (.ptr K 0 0, H) := by
 simp only [vsliceData, h, ne_eq, not_false_eq_true, if_true, Option.map_some]
def strH (H : Hp) (K : Nat) (l : List UInt8) : Hp := if l = [] then H else H.set K (.frz 1 (bRows l))
theorem bRows_str (s : ByteArray) : strRows s = bRows (bl s) := rfl
theorem acc_str {H : Hp} {L : Nat} {pgs : List (List AV)} {s : ByteArray} (hL : H[L]? = some (pobj 5 1 pgs)) (hne : s.size ≠ 0) (hsz : pgs.length + s.size ≤ 140737488355328) :
 vappend Tryz.prog H 68 9 (pval L pgs) (.str s) = some (.row false H.length 0 (pgs.length + s.size), H.set L .dead ++ [VO.arr 5 1 (pgs ++ bRows (bl s))]) := by
 have hv : allVal (bRows (bl s)) = true := bRows_val
 have hf : frzRows H (bRows (bl s)) = some (H, bRows (bl s)) := frzRows_val fun r hr x hx => frz_val (List.all_eq_true.1 (List.all_eq_true.1 hv r hr) x hx)
 have hlen : (bRows (bl s)).length = s.size := by rw [bRows_len, bl_size]
 have hn0 : ¬ (bRows (bl s)).length = 0 := by rw [hlen]; exact hne
 have hx : srcRows H (.str s) = some (bRows (bl s)) := rfl
 unfold vappend vappendF
 have hd : isInt TypeDesc.string = false := rfl
 simp only [el68, Tryz.underlying9, hd, zc5, by5, hx, Bool.false_eq_true, if_false]
 rw [if_pos ⟨rfl, by decide, by decide, bRows_len1, by simp, by unfold pval; split <;> rfl⟩, if_neg hn0, hf]
 simp only
 by_cases hp : pgs = []
 · subst hp
   simp only [pobj, if_true] at hL
   have hset : H.set L .dead = H := by
    obtain ⟨h1, h2⟩ := List.getElem?_eq_some_iff.1 hL
    rw [← h2]; simp
   simp only [pval, if_true, hset]
   rw [if_pos (by rw [hlen]; simp at hsz; omega), hlen]
   simp
 · simp only [pobj, if_neg hp] at hL
   simp only [pval, if_neg hp, hL]
   rw [if_pos (by rw [hlen]; refine ⟨?_, ?_, ?_⟩ <;> first | trivial | omega | simp), hlen]
   simp
theorem byteRows_b : ∀ (l : List UInt8), byteRows (bRows l) = some l
 | [] => rfl
 | c :: l => by
   have ih := byteRows_b l
   have e : bRows (c :: l) = [.int .u8 (c.toNat : Nat)] :: bRows l := rfl
   have hc := c.toNat_lt
   rw [e]
   simp only [byteRows, ih]
   rw [if_pos (by omega)]
   simp
theorem unsafe_str {H : Hp} {K n : Nat} {l : List UInt8} (h : H[K]? = some (.arr 5 1 (bRows l))) (hn : n = l.length) (h0 : l ≠ []) (hl : l.length ≤ 9223372036854775807) :
 vunsafeStr Tryz.prog H #[123, 3] (.ptr K 0 0) (.int .i64 (n : Nat)) = some (.str (bs l), H.set K (.frz 1 (bRows l))) := by
 have hpos : 0 < l.length := by cases l; exact absurd rfl h0; simp
 have hc5 : Tryz.prog.cellsOf 5 = 1 := by kernel_rfl
 subst hn
 simp only [vunsafeStr, Tryz.underlying123, h]
 rw [if_pos (by refine ⟨by omega, by omega, ?_⟩; simp [hc5, bRows_val])]
 have e : ((bRows l).drop 0).take (((l.length : Nat) : Int)).toNat = bRows l := by
  rw [Int.toNat_natCast, List.drop_zero, List.take_of_length_le (by rw [bRows_len]; omega)]
 rw [e, byteRows_b]
 simp only
 rw [if_pos (by simp)]
 rfl
set_option maxHeartbeats 4000000 in
theorem zCopy0 (G : Glob) (H : Hp) (lb : Nat) (y : AV) (hB : H[lb]? = some (.one 70 [.nilp, y])) : XS Tryz.prog G 72 [.ptr lb 0 0] H (fun r H' => r = .tup [] ∧ H' = H.set lb (VO.one 70 [.ptr lb 0 0, y])) := by
 refine xs_body (fun _ => .iso) Tryz.func72 rfl ?_
 refine vc_norm (env' := [_, _, _, _, _, _, _, _, _, _, _, _, _, _, _, _, _, _, _, _]) (H' := _) rfl rfl ?_
 refine vs (wr ?_)
 iterate 3 refine wN (v := .ptr lb 0 0) rfl rfl rfl (v20 rfl ?_)
 refine wN (v := .nilp) rfl (g_load1 hB (ld67 _ _)) rfl (v20 rfl ?_)
 refine wN rfl rfl rfl (v20 rfl ?_)
 refine we rfl ?_
 refine vc_cond rfl (fun hc6 => ?_) (fun hc6 => ?_)
 ·
  refine wr ?_
  iterate 2 refine wN (v := .ptr lb 0 0) rfl rfl rfl (v20 rfl ?_)
  refine wN (v := .ptr lb 0 0) rfl (conv_up hB) rfl (v20 rfl ?_)
  refine w_ext (v := .ptr lb 0 0) (env' := _) rfl rfl rfl (by kernel_rfl) (esc_val 102 (by kernel_rfl) lb) rfl (v20 rfl ?_)
  refine wN (v := .ptr lb 0 0) rfl (conv_down hB) rfl (v20 rfl ?_)
  iterate 2 refine wN (v := .ptr lb 0 0) rfl rfl rfl (v20 rfl ?_)
  refine w_op0N (H2 := (H.set lb (VO.one 70 [.ptr lb 0 0, y]))) rfl (g_store1 hB rfl sz67 ⟨rfl, by simp, by decide⟩) (rfl) (fun _ h => h) ?_
  refine vo_nil (n_fn rfl ?_)
  exact ⟨rfl, rfl⟩
 ·
  cases hc6
set_option maxHeartbeats 4000000 in
theorem zCopy1 (G : Glob) (H : Hp) (lb : Nat) (y : AV) (hB : H[lb]? = some (.one 70 [.ptr lb 0 0, y])) : XS Tryz.prog G 72 [.ptr lb 0 0] H (fun r H' => r = .tup [] ∧ H' = H.set lb (VO.one 70 [.ptr lb 0 0, y])) := by
 refine xs_body (fun _ => .iso) Tryz.func72 rfl ?_
 refine vc_norm (env' := [_, _, _, _, _, _, _, _, _, _, _, _, _, _, _, _, _, _, _, _]) (H' := _) rfl rfl ?_
 refine vs (wr ?_)
 iterate 3 refine wN (v := .ptr lb 0 0) rfl rfl rfl (v20 rfl ?_)
 refine wN (v := .ptr lb 0 0) rfl (g_load1 hB (ld67 _ _)) rfl (v20 rfl ?_)
 refine wN rfl rfl rfl (v20 rfl ?_)
 refine we rfl ?_
 refine vc_cond rfl (fun hc6 => ?_) (fun hc6 => ?_)
 ·
  cases hc6
 ·
  refine vs (wr ?_)
  iterate 3 refine wN (v := .ptr lb 0 0) rfl rfl rfl (v20 rfl ?_)
  refine wN (v := .ptr lb 0 0) rfl (g_load1 hB (ld67 _ _)) rfl (v20 rfl ?_)
  refine wN (v := .ptr lb 0 0) rfl rfl rfl (v20 rfl ?_)
  refine wN (v := .bool false) rfl (ptr_ne) rfl (v20 rfl ?_)
  refine we rfl ?_
  refine vc_cond rfl (fun hc19 => ?_) (fun hc19 => ?_)
  ·
   cases hc19
  ·
   refine vc_skip (n_fn rfl ?_)
   exact ⟨rfl, (set_get hB).symm⟩
theorem zCopy (G : Glob) (H : Hp) (lb : Nat) (A y : AV) (hB : H[lb]? = some (.one 70 [A, y])) (hA : A = .nilp ∨ A = .ptr lb 0 0) : XS Tryz.prog G 72 [.ptr lb 0 0] H (fun r H' => r = .tup [] ∧ H' = H.set lb (VO.one 70 [.ptr lb 0 0, y])) := by
 rcases hA with rfl | rfl
 · exact zCopy0 G H lb y hB
 · exact zCopy1 G H lb y hB
set_option maxHeartbeats 4000000 in
theorem zWrite (G : Glob) (H : Hp) (lb : Nat) (K : Nat) (A : AV) (pgs : List (List AV)) (s : ByteArray) (hB : H[lb]? = some (.one 70 [A, pval K pgs])) (hA : A = .nilp ∨ A = .ptr lb 0 0) (hK : H[K]? = some (pobj 5 1 pgs)) (hne : K ≠ lb) (hs : s.size ≠ 0) (hsz : pgs.length + s.size ≤ 140737488355328) : XS Tryz.prog G 35 [.ptr lb 0 0, .str s] H (fun r H' => r = .tup [.int .i64 (s.size : Nat), .nili] ∧ H' = (((H.set lb (VO.one 70 [.ptr lb 0 0, pval K pgs])).set K VO.dead) ++ [VO.arr 5 1 (pgs ++ bRows (bl s))]).set lb (VO.one 70 [.ptr lb 0 0, .row false H.length 0 (pgs.length + s.size)])) := by
 have hB1 : (H.set lb (VO.one 70 [.ptr lb 0 0, pval K pgs]))[lb]? = some (.one 70 [.ptr lb 0 0, pval K pgs]) := get_self hB
 have hK1 : (H.set lb (VO.one 70 [.ptr lb 0 0, pval K pgs]))[K]? = some (pobj 5 1 pgs) := by rw [List.getElem?_set_ne (Ne.symm hne)]; exact hK
 have hB2 : ((H.set lb (VO.one 70 [.ptr lb 0 0, pval K pgs])).set K VO.dead ++ [VO.arr 5 1 (pgs ++ bRows (bl s))])[lb]? = some (.one 70 [.ptr lb 0 0, pval K pgs]) := by rw [List.getElem?_append_left (by have := (List.getElem?_eq_some_iff.1 hB).1; simpa using this), List.getElem?_set_ne hne]; exact hB1
 refine xs_body (fun o => match o.op with | .call ⟨.value _, _, _⟩ => .shr | _ => .iso) Tryz.func35 rfl ?_
 refine vc_norm (env' := [_, _, _, _, _, _, _, _, _, _, _, _, _, _, _, _, _, _, _]) (H' := _) rfl rfl ?_
 refine vs (wr ?_)
 iterate 2 refine wN rfl rfl rfl (v19 rfl ?_)
 refine we rfl (vs (wr ?_))
 refine wN (v := .ptr lb 0 0) rfl rfl rfl (v19 rfl ?_)
 refine w_callS rfl rfl rfl (by kernel_rfl) rfl (zCopy G H lb A (pval K pgs) hB hA) ?_
 rintro _ _ ⟨rfl, rfl⟩
 refine v19 rfl ?_
 refine we rfl (vs (wr ?_))
 iterate 3 refine wN (v := .ptr lb 0 0) rfl rfl rfl (v19 rfl ?_)
 refine wN (v := .ptr lb 0 1) rfl rfl rfl (v19 rfl ?_)
 refine wN (v := pval K pgs) rfl (g_load1 hB1 (ld68 _)) rfl (v19 rfl ?_)
 refine wN rfl rfl rfl (v19 rfl ?_)
 refine w_opH (v := .row false H.length 0 (pgs.length + s.size)) (env' := _) (H2 := ((H.set lb (VO.one 70 [.ptr lb 0 0, pval K pgs])).set K VO.dead ++ [VO.arr 5 1 (pgs ++ bRows (bl s))])) rfl ((acc_str hK1 hs hsz).trans (by rw [List.length_set])) rfl (rfl) (fun _ h => h) (v19 rfl ?_)
 refine wN (v := .ptr lb 0 0) rfl rfl rfl (v19 rfl ?_)
 refine wN (v := .ptr lb 0 1) rfl rfl rfl (v19 rfl ?_)
 refine w_op0N (H2 := (((H.set lb (VO.one 70 [.ptr lb 0 0, pval K pgs])).set K VO.dead ++ [VO.arr 5 1 (pgs ++ bRows (bl s))]).set lb (VO.one 70 [.ptr lb 0 0, .row false H.length 0 (pgs.length + s.size)]))) rfl (g_store1 hB2 rfl sz68 ⟨rfl, by simp, by decide⟩) (rfl) (fun _ h => h) ?_
 refine we rfl (vs (wr ?_))
 iterate 4 refine wN rfl rfl rfl (v19 rfl ?_)
 refine we rfl (vc_ret (r_fn rfl ?_))
 exact ⟨rfl, rfl⟩
set_option maxHeartbeats 4000000 in
theorem zStr0 (G : Glob) (H : Hp) (lb : Nat) (A : AV) (hB : H[lb]? = some (.one 70 [A, .nils])) : XS Tryz.prog G 38 [.ptr lb 0 0] H (fun r H' => r = .str (bs []) ∧ H' = H) := by
 refine xs_body (fun _ => .iso) Tryz.func38 rfl ?_
 refine vc_norm (env' := [_, _, _, _, _, _, _, _, _, _, _, _, _, _]) (H' := _) rfl rfl ?_
 refine vs (wr ?_)
 refine wN rfl rfl rfl (v14 rfl ?_)
 refine we rfl (vs (w_regionD (by kernel_rfl) ?_))
 iterate 2 refine dN (v := .ptr lb 0 0) rfl rfl rfl (d14 rfl ?_)
 refine dN (v := .ptr lb 0 1) rfl rfl rfl (d14 rfl ?_)
 refine d_opH (v := .nils) (env' := _) (H2 := H) rfl (g_load1 hB (ld68 _)) (.inr rfl) rfl (rfl) (fun _ h => h) (d14 rfl ?_)
 refine dN rfl rfl rfl (d14 rfl ?_)
 iterate 2 refine dN (v := .ptr lb 0 0) rfl rfl rfl (d14 rfl ?_)
 refine dN (v := .ptr lb 0 1) rfl rfl rfl (d14 rfl ?_)
 refine d_opH (v := .nils) (env' := _) (H2 := H) rfl (g_load1 hB (ld68 _)) (.inr rfl) rfl (rfl) (fun _ h => h) (d14 rfl ?_)
 first | refine dN rfl rfl rfl (d14 rfl ?_) | refine y_len rfl rfl ‹_› Tryz.underlying68 rfl (d14 rfl ?_)
 refine d_opH (env' := _) (H2 := _) rfl rfl (.inl rfl) rfl rfl (fun _ h => h) (d14 rfl ?_)
 refine dN rfl rfl rfl (d14 rfl ?_)
 refine d_end rfl (vc_ret (r_fn rfl ?_))
 exact ⟨rfl, rfl⟩
set_option maxHeartbeats 4000000 in
theorem zStr1 (G : Glob) (H : Hp) (lb : Nat) (K : Nat) (A : AV) (l : List UInt8) (hB : H[lb]? = some (.one 70 [A, .row false K 0 l.length])) (hK : H[K]? = some (.arr 5 1 (bRows l))) (h0 : l ≠ []) (hl : l.length ≤ 9223372036854775807) : XS Tryz.prog G 38 [.ptr lb 0 0] H (fun r H' => r = .str (bs l) ∧ H' = H.set K (.frz 1 (bRows l))) := by
 have hn0 : l.length ≠ 0 := fun h => h0 (List.eq_nil_of_length_eq_zero h)
 refine xs_body (fun _ => .iso) Tryz.func38 rfl ?_
 refine vc_norm (env' := [_, _, _, _, _, _, _, _, _, _, _, _, _, _]) (H' := _) rfl rfl ?_
 refine vs (wr ?_)
 refine wN rfl rfl rfl (v14 rfl ?_)
 refine we rfl (vs (w_regionD (by kernel_rfl) ?_))
 iterate 2 refine dN (v := .ptr lb 0 0) rfl rfl rfl (d14 rfl ?_)
 refine dN (v := .ptr lb 0 1) rfl rfl rfl (d14 rfl ?_)
 refine d_opH (v := .row false K 0 l.length) (env' := _) (H2 := H) rfl (g_load1 hB (ld68 _)) (.inr rfl) rfl (rfl) (fun _ h => h) (d14 rfl ?_)
 refine d_opH (v := .ptr K 0 0) (env' := _) (H2 := H) rfl (slice_data hn0) (.inr rfl) rfl (rfl) (fun _ h => h) (d14 rfl ?_)
 iterate 2 refine dN (v := .ptr lb 0 0) rfl rfl rfl (d14 rfl ?_)
 refine dN (v := .ptr lb 0 1) rfl rfl rfl (d14 rfl ?_)
 refine d_opH (v := .row false K 0 l.length) (env' := _) (H2 := H) rfl (g_load1 hB (ld68 _)) (.inr rfl) rfl (rfl) (fun _ h => h) (d14 rfl ?_)
 first | refine dN rfl rfl rfl (d14 rfl ?_) | refine y_len rfl rfl ‹_› Tryz.underlying68 rfl (d14 rfl ?_)
 refine d_opH (v := .str (bs l)) (env' := _) (H2 := (H.set K (.frz 1 (bRows l)))) rfl (unsafe_str hK rfl h0 hl) (.inl rfl) rfl (rfl) (fun _ h => h) (d14 rfl ?_)
 refine dN rfl rfl rfl (d14 rfl ?_)
 refine d_end rfl (vc_ret (r_fn rfl ?_))
 exact ⟨rfl, rfl⟩
theorem zStr (G : Glob) (H : Hp) (lb K : Nat) (A : AV) (l : List UInt8) (hB : H[lb]? = some (.one 70 [A, pval K (bRows l)])) (hK : H[K]? = some (pobj 5 1 (bRows l))) (hl : l.length ≤ 9223372036854775807) : XS Tryz.prog G 38 [.ptr lb 0 0] H (fun r H' => r = .str (bs l) ∧ H' = strH H K l) := by
 by_cases h : l = []
 · subst h
   rw [strH, if_pos rfl]
   exact zStr0 G H lb A hB
 · have hb : ¬ bRows l = [] := by simpa [bRows] using h
   rw [pval, if_neg hb, bRows_len] at hB
   rw [pobj, if_neg hb] at hK
   rw [strH, if_neg h]
   exact zStr1 G H lb K A l hB hK h hl
end Go.Vi
namespace Go.Vi
open Go Go.Vi Go.Proofs
attribute [local irreducible] vops vopsD vc
def nameT (b : PB) (t : Int) : ByteArray := match b.types[t.toNat]? with
 | some u => u.name
 | none => ⟨#[]⟩
def lineL (b : PB) (y : PI) : List UInt8 := [hd (depthE b y.type).1.toNat] ++ [32] ++ bl (nameT b y.type) ++ [32] ++ hexL (bl y.data) ++ [10]
def unloadL (b : PB) (f : List PI) : List UInt8 := f.flatMap (lineL b)
def unloadV (b : PB) (f : List PI) : AV := .tup [.str (if forestE b f = 0 then bs (unloadL b f) else ⟨#[]⟩), .int .i64 (forestE b f)]
theorem unload_snoc {b : PB} {f : List PI} {i : Nat} {y : PI} (h : f[i]? = some y) : unloadL b (f.take (i + 1)) = unloadL b (f.take i) ++ lineL b y := by
 rw [List.take_add_one, h]
 simp [unloadL]
theorem forest_ok {b : PB} {f : List PI} (h : forestE b f = 0) : baseOk b = true ∧ rightP b f = true := by
 unfold forestE at h
 split at h
 · rename_i hv
   split at h
   · rename_i h2; exact ⟨hv, by rw [← valid_right hv]; exact h2⟩
   · cases h
 · cases h
theorem depth_small {b : PB} {t : Int} : ∃ n : Nat, (depthE b t).1 = (n : Int) ∧ n ≤ 9 := by
 unfold depthE
 split
 · rename_i h
   exact ⟨_, rfl, by have := way_le8 h; omega⟩
 · exact ⟨0, rfl, by omega⟩
theorem name_len {s : ByteArray} (h : isName s = true) : s.size ≤ 8 := by
 simp only [isName, Bool.and_eq_true, decide_eq_true_eq] at h
 exact h.2
theorem right_200 {b : PB} {f : List PI} (h : rightP b f = true) : f.length ≤ 200 := by
 simp only [rightP, Bool.and_eq_true, decide_eq_true_eq] at h
 omega
theorem line_small {b : PB} {f : List PI} (hv : baseOk b = true) (hr : rightP b f = true) {y : PI} (hy : y ∈ f) : ∃ t, b.types[y.type.toNat]? = some t ∧ 0 ≤ y.type ∧ y.type < b.types.length ∧ t.name.size ≤ 8 ∧ y.data.size ≤ 40 ∧ nameT b y.type = t.name := by
 obtain ⟨t, ht, h0, h1, h2, h3⟩ := fits_type (right_fits hr y hy)
 have hk := ok_types hv ht
 simp only [typeOk, Bool.and_eq_true] at hk
 have h4 := hk.1
 simp only [typeHead, Bool.not_eq_true', Bool.or_eq_false_iff, Bool.not_eq_false', decide_eq_false_iff_not] at h4
 obtain ⟨⟨⟨⟨h5, h6⟩, h7⟩, h8⟩, h9⟩ := h4
 exact ⟨t, ht, h0, h1, name_len h5, by omega, by simp only [nameT, ht]⟩
theorem line_len {b : PB} {f : List PI} (hv : baseOk b = true) (hr : rightP b f = true) {y : PI} (hy : y ∈ f) : (lineL b y).length ≤ 100 ∧ (lineL b y).length ≠ 0 := by
 obtain ⟨t, ht, h0, h1, h2, h3, h4⟩ := line_small hv hr hy
 unfold lineL
 rw [h4]
 have e1 : (bl t.name).length ≤ 8 := by rw [← bl_size]; exact h2
 have e2 : (bl y.data).length ≤ 40 := by rw [← bl_size]; exact h3
 simp only [List.length_append, hexL_len, List.length_cons, List.length_nil]
 omega
theorem unload_len {b : PB} {f : List PI} (hv : baseOk b = true) (hr : rightP b f = true) : ∀ i, (unloadL b (f.take i)).length ≤ 100 * i
 | 0 => by simp [unloadL]
 | i + 1 => by
   have ih := unload_len hv hr i
   cases hy : f[i]? with
   | none =>
     rw [List.take_add_one, hy]
     simpa using Nat.le_trans ih (by omega)
   | some y =>
     have := (line_len hv hr (List.mem_of_getElem? hy)).1
     rw [unload_snoc hy, List.length_append]
     omega
theorem s_addG {P : Program} {H : Hp} {t : TypeId} {s u : ByteArray} {l : List UInt8} (h : s.size + u.size < 9223372036854775808) (he : bl s ++ bl u = l) : (orX (vbin P .add t (.str s) (.str u)) (vbinX P .add t (.str s) (.str u))).map (·, H) = some (.str (bs l), H) := by
 have hs := s_add (P := P) (H := H) (t := t) (a := bl s) (c := bl u) (by rw [← bl_size, ← bl_size]; exact h)
 rw [bs_bl, bs_bl, he] at hs
 exact hs
def adr (i : Nat) : AV := if i = 0 then .nilp else .ptr 1 0 0
theorem adr_cases (i : Nat) : adr i = .nilp ∨ adr i = .ptr 1 0 0 := by
 unfold adr; split
 · exact .inl rfl
 · exact .inr rfl
theorem leaf_pval {n : Nat} {H : Hp} {L : Nat} {e : TypeId} {sz : Nat} {pgs : List (List AV)} (h : H[L]? = some (pobj e sz pgs)) : Vi.leafN n H (pval L pgs) := by
 unfold pval
 split
 · trivial
 · rename_i hp
   exact .inr ⟨_, h, by simp [pobj, hp, VO.live]⟩
theorem leaf_adr {n i : Nat} {H : Hp} {cs : List AV} (h : H[1]? = some (.one 70 cs)) : Vi.leafN n H (adr i) := by
 unfold adr
 split
 · trivial
 · exact .inr ⟨_, h, rfl⟩
theorem adr_ren {σ : List Nat} {i : Nat} (h : σ[1]? = some 1) : Vi.ren0 σ (adr (i + 1)) = some (.ptr 1 0 0) := by
 rw [adr, if_neg (by omega)]
 simp [Vi.ren0, h]
theorem pval_app0 {σ : List Nat} {L l' : Nat} {pgs news : List (List AV)} (hne : news ≠ []) (h : σ[L]? = some l') : Vi.ren0 σ (pval L (pgs ++ news)) = some (.row false l' 0 (pgs.length + news.length)) := by
 have e : ¬ pgs ++ news = [] := by simp [hne]
 rw [pval, if_neg e]
 simp [Vi.ren0, h]
theorem one_ren {σ : List Nat} {T : TypeId} {x y x' y' : AV} (h1 : Vi.ren0 σ x = some x') (h2 : Vi.ren0 σ y = some y') : renO σ (.one T [x, y]) = some (.one T [x', y']) := by
 simp only [renO, mapL, h1, h2, Option.map_some]
set_option maxHeartbeats 8000000 in
theorem zRUnload (G : Glob) (b : PB) (hb : BaseV b) (x : AV) (f : List PI) (hx : ItemsIs x f) : Vi.Fn Tryz.prog G 11 [.agg (encB b), x] (unloadV b f) := by
 have hL := hb.types.isL
 have hLs := hb.search.isL
 have htv := hb.txv
 have hsv := hb.sxv
 have hxl : (lrows b.tx).length = b.types.length := by rw [hb.types.rows]; simp
 have hXL := hx.isL
 have hfl : (lrows x).length = f.length := by rw [hx.rows]; simp
 have hxlen := hx.len
 have hask := zAskF G b hb x f hx .nils [] (.inl rfl) rfl (by simp)
 rw [ask_nil] at hask
 refine fn_body (fun _ => .iso) Tryz.func11 rfl ?_
 refine vc_norm (env' := (_ :: _ :: _ :: _ :: _ :: _ :: _ :: _ :: _ :: _ :: _ :: _ :: _ :: _ :: _ :: _ :: _ :: _ :: _ :: _ :: _ :: _ :: _ :: _ :: _ :: _ :: _ :: _ :: _ :: _ :: _ :: _ :: _ :: _ :: _ :: _ :: _ :: _ :: _ :: _ :: _ :: _ :: _ :: _ :: _ :: _ :: _ :: _ :: _ :: _ :: _ :: _ :: _ :: _ :: _ :: _ :: _ :: _ :: _ :: [])) (H' := []) rfl rfl ?_
 refine vs (wr ?_)
 refine w_opH (v := .ptr 0 0 0) (env' := _) (H2 := [.arr 25 4 [[_, _, _, _]]]) rfl rfl rfl rfl (fun _ h => h) (v59 rfl ?_)
 iterate 2 refine wN rfl rfl rfl (v59 rfl ?_)
 refine we rfl (vs (vs (wr ?_)))
 refine wN (v := .agg [_, _, _, _]) rfl rfl rfl (v59 rfl ?_)
 refine wN rfl rfl rfl (v59 rfl ?_)
 refine w_callI (env' := _) rfl rfl rfl (by kernel_rfl) rfl (by repeat' first | exact IsL.lend ‹_› | exact IsL.lend0 ‹_› | refine mapL_cons ?_ ?_ | refine lend_agg ?_ | rfl) (hask) rfl (v59 rfl ?_)
 refine wN rfl rfl rfl (v59 rfl ?_)
 refine we rfl (vs (wr ?_))
 iterate 2 refine wN rfl rfl rfl (v59 rfl ?_)
 refine we rfl ?_
 refine vc_cond rfl (fun hc15 => ?_) (fun hc15 => ?_)
 ·
  have hne : ¬ forestE b f = 0 := by simpa using hc15
  refine vs (wr ?_)
  iterate 3 refine wN rfl rfl rfl (v59 rfl ?_)
  refine we rfl (vc_ret (r_then (r_fn rfl ?_)))
  show some (AV.tup [.str ⟨#[]⟩, .int .i64 (forestE b f)]) = some (unloadV b f)
  rw [unloadV, if_neg hne]
 ·
  have hf0 : forestE b f = 0 := by simpa using hc15
  obtain ⟨hv, hr⟩ := forest_ok hf0
  have h200 := right_200 hr
  refine vc_skip (n_then (vs (wr ?_)))
  refine wN rfl rfl rfl (v59 rfl ?_)
  refine we rfl (vs (vs (wr ?_)))
  refine wN rfl rfl rfl (v59 rfl ?_)
  refine we rfl (vc_block ?_)
  refine vc_loopU (α := { i : Nat // i ≤ f.length }) (fun i => (rnone 7 ++ ([some (.str (bs (unloadL b (f.take i.1)))), some (.int .i64 (i.1 : Nat)), some .undef, some .undef] ++ (rnone 6 ++ (rundef 41 ++ ([none])))))) (fun i => f.length - i.1) ⟨0, by omega⟩ (by repeat' first | exact trivial | refine ⟨.inr rfl, ?_⟩ | refine ⟨.inl rfl, ?_⟩ | fail) (fun _ => ⟨Nat.zero_le _, (by repeat' first | exact trivial | exact IsL.belowV ‹_› | refine ⟨?_, ?_⟩ | exact IsL.below ‹_› | (simp [valB, leafB, cellsB, IsL.below, *]; done) | (simp [valB, leafB, cellsB, IsL.below, *]; omega) | fail), (by repeat' first | exact trivial | exact IsL.below (by assumption) | refine ⟨?_, ?_⟩ | (simp [leafB]; done))⟩) ?_
  rintro ⟨i, hi⟩ Y0 hY0
  refine vc_norm (env' := (_ :: _ :: _ :: _ :: _ :: _ :: _ :: (.str (bs (unloadL b (f.take i)))) :: (.int .i64 (i : Int)) :: _ :: _ :: _ :: _ :: _ :: _ :: _ :: _ :: _ :: _ :: _ :: _ :: _ :: _ :: _ :: _ :: _ :: _ :: _ :: _ :: _ :: _ :: _ :: _ :: _ :: _ :: _ :: _ :: _ :: _ :: _ :: _ :: _ :: _ :: _ :: _ :: _ :: _ :: _ :: _ :: _ :: _ :: _ :: _ :: _ :: _ :: _ :: _ :: _ :: _ :: [])) (H' := [.arr 25 4 [[_, _, _, _]]]) rfl rfl ?_
  refine vs (vs (wr ?_))
  iterate 2 refine wN rfl rfl rfl (v59 rfl ?_)
  first | refine wN rfl rfl rfl (v59 rfl ?_) | refine x_len rfl rfl ‹_› Tryz.underlying26 rfl (v59 rfl ?_)
  refine wN rfl rfl rfl (v59 rfl ?_)
  refine we rfl ?_
  refine vc_cond rfl (fun hc20 => ?_) (fun hc20 => ?_)
  ·
   have hlt : i < f.length := by have := of_decide_eq_true hc20; omega
   obtain ⟨y, hyy⟩ : ∃ y, f[i]? = some y := ⟨_, List.getElem?_eq_getElem hlt⟩
   have hri := hx.at hyy
   have hmem := List.mem_of_getElem? hyy
   obtain ⟨t, ht, ht0, ht1, hn8, hd40, hnm⟩ := line_small hv hr hmem
   have hrt : (lrows b.tx)[(y.type).toNat]? = some [.str t.name, .int .i64 t.parent, .int .i64 t.min, .int .i64 t.size, t.fx, .int .i64 t.key, .bool t.unique, .bool t.last] := by rw [hb.types.rows, List.getElem?_map, ht]; rfl
   obtain ⟨n, hn1, hn9⟩ := depth_small (b := b) (t := y.type)
   have hlen := line_len hv hr hmem
   have hul := unload_len hv hr i
   have hsn := unload_snoc (b := b) hyy
   have hln : lineL b y = [hd n] ++ [32] ++ bl t.name ++ [32] ++ hexL (bl y.data) ++ [10] := by unfold lineL; rw [hn1, hnm]; simp
   rw [hln] at hlen hsn
   have e8 : (bl t.name).length ≤ 8 := by rw [← bl_size]; exact hn8
   have e40 : (hexL (bl y.data)).length ≤ 80 := by rw [hexL_len, ← bl_size]; omega
   have hhs : (hexS y.data).size ≤ 80 := by rw [hexS, bs_size]; exact e40
   have hit := zDec G n hn9
   rw [← hn1] at hit
   refine vc_skip (n_then (vs (vc_block (vs (w_regionD (by kernel_rfl) ?_)))))
   refine dN (v := .agg [_, _, _, _]) rfl rfl rfl (d59 rfl ?_)
   iterate 2 refine dN rfl rfl rfl (d59 rfl ?_)
   first | refine dN (v := .iptr _ [_, _]) rfl rfl rfl (d59 rfl ?_) | (refine y_index rfl rfl ‹_› rfl el26 (by omega) ‹_› rfl (fun bo => ?_); refine d59 rfl ?_)
   refine dN (v := .iptr _ [_, _]) rfl rfl rfl (d59 rfl ?_)
   refine dN rfl rfl rfl (d59 rfl ?_)
   refine d_callI (env' := _) rfl rfl rfl (by kernel_rfl) rfl (by repeat' first | exact IsL.lend ‹_› | exact IsL.lend0 ‹_› | refine mapL_cons ?_ ?_ | refine lend_agg ?_ | rfl) (zRDepth G b hb y.type) rfl (d59 rfl ?_)
   iterate 5 refine dN rfl rfl rfl (d59 rfl ?_)
   refine d_end rfl (w_regionD (by kernel_rfl) ?_)
   iterate 2 refine dN rfl rfl rfl (d59 rfl ?_)
   refine d_callI (env' := _) rfl rfl rfl (by kernel_rfl) rfl (by repeat' first | exact IsL.lend ‹_› | exact IsL.lend0 ‹_› | refine mapL_cons ?_ ?_ | refine lend_agg ?_ | rfl) (hit) rfl (d59 rfl ?_)
   refine dN (v := .str (bs ([hd n] ++ [32]))) rfl (s_addG (P := Tryz.prog) (t := 9) (s := bs [hd n]) (u := bs [32]) (by rw [bs_size, bs_size]; simp) (by rw [bl_bs, bl_bs])) rfl (d59 rfl ?_)
   refine dN (v := .ptr 0 0 2) rfl rfl rfl (d59 rfl ?_)
   iterate 3 refine dN rfl rfl rfl (d59 rfl ?_)
   first | refine dN (v := .iptr _ [_, _]) rfl rfl rfl (d59 rfl ?_) | (refine y_index rfl rfl ‹_› rfl el26 (by omega) ‹_› rfl (fun bo => ?_); refine d59 rfl ?_)
   refine dN (v := .iptr _ [_, _]) rfl rfl rfl (d59 rfl ?_)
   refine dN rfl rfl rfl (d59 rfl ?_)
   first | refine dN (v := .iptr _ [_, _, _, _, _, _, _, _]) rfl rfl rfl (d59 rfl ?_) | (refine y_index rfl rfl ‹_› rfl el22 (by omega) ‹_› rfl (fun bo => ?_); refine d59 rfl ?_)
   refine dN (v := .iptr _ [_, _, _, _, _, _, _, _]) rfl rfl rfl (d59 rfl ?_)
   refine dN rfl rfl rfl (d59 rfl ?_)
   refine dN (v := .str (bs ([hd n] ++ [32] ++ bl t.name))) rfl (s_addG (P := Tryz.prog) (t := 9) (s := bs ([hd n] ++ [32])) (u := t.name) (by rw [bs_size]; simp; omega) (by rw [bl_bs])) rfl (d59 rfl ?_)
   refine dN (v := .str (bs ([hd n] ++ [32] ++ bl t.name ++ [32]))) rfl (s_addG (P := Tryz.prog) (t := 9) (s := bs ([hd n] ++ [32] ++ bl t.name)) (u := bs [32]) (by rw [bs_size, bs_size]; simp; omega) (by rw [bl_bs, bl_bs])) rfl (d59 rfl ?_)
   iterate 2 refine dN rfl rfl rfl (d59 rfl ?_)
   first | refine dN (v := .iptr _ [_, _]) rfl rfl rfl (d59 rfl ?_) | (refine y_index rfl rfl ‹_› rfl el26 (by omega) ‹_› rfl (fun bo => ?_); refine d59 rfl ?_)
   refine dN (v := .iptr _ [_]) rfl rfl rfl (d59 rfl ?_)
   refine dN rfl rfl rfl (d59 rfl ?_)
   refine d_callI (env' := _) rfl rfl rfl (by kernel_rfl) rfl (by repeat' first | exact IsL.lend ‹_› | exact IsL.lend0 ‹_› | refine mapL_cons ?_ ?_ | refine lend_agg ?_ | rfl) (zHex G y.data (by omega)) rfl (d59 rfl ?_)
   refine dN (v := .str (bs ([hd n] ++ [32] ++ bl t.name ++ [32] ++ hexL (bl y.data)))) rfl (s_addG (P := Tryz.prog) (t := 9) (s := bs ([hd n] ++ [32] ++ bl t.name ++ [32])) (u := hexS y.data) (by rw [bs_size]; simp; omega) (by rw [bl_bs, hexS, bl_bs])) rfl (d59 rfl ?_)
   refine dN (v := .str (bs ([hd n] ++ [32] ++ bl t.name ++ [32] ++ hexL (bl y.data) ++ [10]))) rfl (s_addG (P := Tryz.prog) (t := 9) (s := bs ([hd n] ++ [32] ++ bl t.name ++ [32] ++ hexL (bl y.data))) (u := bs [10]) (by rw [bs_size, bs_size]; simp; omega) (by rw [bl_bs, bl_bs])) rfl (d59 rfl ?_)
   refine dN (v := .str (bs (unloadL b (f.take i) ++ ([hd n] ++ [32] ++ bl t.name ++ [32] ++ hexL (bl y.data) ++ [10])))) rfl (s_addG (P := Tryz.prog) (t := 9) (s := bs (unloadL b (f.take i))) (u := bs ([hd n] ++ [32] ++ bl t.name ++ [32] ++ hexL (bl y.data) ++ [10])) (by rw [bs_size, bs_size]; omega) (by rw [bl_bs, bl_bs])) rfl (d59 rfl ?_)
   refine dN rfl rfl rfl (d59 rfl ?_)
   refine d_endB rfl (n_then (wr ?_))
   iterate 3 refine wN rfl rfl rfl (v59 rfl ?_)
   refine we rfl ?_
   refine hY0 ⟨i + 1, hlt⟩ (by simp only; omega) _ _ _ ?_ rfl
   repeat' first | exact trivial | refine ⟨.inr rfl, ?_⟩ | refine ⟨.inl rfl, ?_⟩ | refine ⟨.inl ?_, ?_⟩ | fail
   all_goals first | (show AV.str (bs (unloadL b (List.take (i + 1) f))) = _; rw [hsn]) | exact (int_succ (by omega)).symm
  ·
   have hge : ¬ i < f.length := by have := of_decide_eq_false hc20; omega
   have hall : f.take i = f := List.take_of_length_le (by omega)
   refine vc_exit (x_then (x_then (x_same (n_then (vs (wr ?_))))))
   iterate 3 refine wN rfl rfl rfl (v59 rfl ?_)
   refine we rfl (vc_ret (r_fn rfl ?_))
   show some (AV.tup [.str (bs (unloadL b (f.take i))), .int .i64 0]) = some (unloadV b f)
   rw [unloadV, if_pos hf0, hf0, hall]
set_option maxHeartbeats 8000000 in
theorem zUnload (G : Glob) (b : PB) (hb : BaseV b) (x : AV) (f : List PI) (hx : ItemsIs x f) : Vi.Fn Tryz.prog G 10 [.agg (encB b), x] (unloadV b f) := by
 have hL := hb.types.isL
 have hLs := hb.search.isL
 have htv := hb.txv
 have hsv := hb.sxv
 have hxl : (lrows b.tx).length = b.types.length := by rw [hb.types.rows]; simp
 have hXL := hx.isL
 have hfl : (lrows x).length = f.length := by rw [hx.rows]; simp
 have hxlen := hx.len
 refine fn_body (fun o => match o.op with | .alloc t => if t = 70 then .shf else .iso | .call ⟨.value (.func g), _, _⟩ => if g = 35 ∨ g = 38 then .shr else .iso | _ => .iso) Tryz.func10 rfl ?_
 refine vc_norm (env' := (_ :: _ :: _ :: _ :: _ :: _ :: _ :: _ :: _ :: _ :: _ :: _ :: _ :: _ :: _ :: _ :: _ :: _ :: _ :: _ :: _ :: _ :: _ :: _ :: _ :: _ :: _ :: _ :: _ :: _ :: _ :: _ :: _ :: _ :: _ :: _ :: _ :: _ :: _ :: _ :: _ :: _ :: _ :: _ :: _ :: _ :: _ :: _ :: _ :: _ :: _ :: [])) (H' := []) rfl rfl ?_
 refine vs (wr ?_)
 refine w_opH (v := .ptr 0 0 0) (env' := _) (H2 := [.arr 25 4 [[_, _, _, _]]]) rfl rfl rfl rfl (fun _ h => h) (v51 rfl ?_)
 iterate 2 refine wN rfl rfl rfl (v51 rfl ?_)
 refine we rfl (vs (vs (wr ?_)))
 refine wN (v := .agg [_, _, _, _]) rfl rfl rfl (v51 rfl ?_)
 refine wN rfl rfl rfl (v51 rfl ?_)
 refine w_callI (env' := _) rfl rfl rfl (by kernel_rfl) rfl (by repeat' first | exact IsL.lend ‹_› | exact IsL.lend0 ‹_› | refine mapL_cons ?_ ?_ | refine lend_agg ?_ | rfl) (zForest G b hb x f hx) rfl (v51 rfl ?_)
 refine wN rfl rfl rfl (v51 rfl ?_)
 refine we rfl (vs (wr ?_))
 iterate 2 refine wN rfl rfl rfl (v51 rfl ?_)
 refine we rfl ?_
 refine vc_cond rfl (fun hc16 => ?_) (fun hc16 => ?_)
 ·
  have hne : ¬ forestE b f = 0 := by simpa using hc16
  refine vs (wr ?_)
  iterate 3 refine wN rfl rfl rfl (v51 rfl ?_)
  refine we rfl (vc_ret (r_then (r_fn rfl ?_)))
  show some (AV.tup [.str ⟨#[]⟩, .int .i64 (forestE b f)]) = some (unloadV b f)
  rw [unloadV, if_neg hne]
 ·
  have hf0 : forestE b f = 0 := by simpa using hc16
  obtain ⟨hv, hr⟩ := forest_ok hf0
  have h200 := right_200 hr
  refine vc_skip (n_then (vs (wr ?_)))
  refine w_opH (v := .ptr 1 0 0) (env' := _) (H2 := [.arr 25 4 [[_, _, _, _]], .one 70 [.nilp, .nils]]) rfl rfl rfl rfl (fun _ h => h) (v51 rfl ?_)
  refine we rfl (vs (vs (wr ?_)))
  refine wN rfl rfl rfl (v51 rfl ?_)
  first | refine wN rfl rfl rfl (v51 rfl ?_) | refine x_len rfl rfl ‹_› Tryz.underlying26 rfl (v51 rfl ?_)
  refine wN rfl rfl rfl (v51 rfl ?_)
  refine we rfl (vc_block ?_)
  refine vc_loopN (α := { i : Nat // i ≤ f.length }) (fun i => (rnone 9 ++ ([some .undef, some .undef, some .undef] ++ (rnone 8 ++ ([some (.int .i64 (i.1 : Nat))] ++ (rundef 29 ++ ([none]))))))) (fun i => [VO.arr 25 4 [[.str b.name, .int .i64 b.kind, b.tx, b.sx]], .one 70 [adr i.1, pval 2 (bRows (unloadL b (f.take i.1)))], pobj 5 1 (bRows (unloadL b (f.take i.1)))]) (fun i => f.length - i.1) ⟨0, by omega⟩ [0, 1, 2] (by repeat' first | exact trivial | refine ⟨.inl rfl, ?_⟩ | refine ⟨.inr rfl, ?_⟩ | refine ⟨.inr (IsL.ren1 ‹_›), ?_⟩ | refine ⟨(.inr (base_ren hL hLs)), ?_⟩ | fail) (by decide) (fun _ h => absurd h (by omega)) ⟨.inr ⟨_, rfl, ren_arr (base_renO hL hLs)⟩, .inr ⟨_, rfl, rfl⟩, .inl rfl, trivial⟩ (fun i => ⟨Nat.zero_le _, (by repeat' first | exact trivial | exact .inr ⟨_, rfl, rfl⟩ | exact IsL.valN ‹_› | exact (base_N hL hLs) | exact (.inr ⟨_, rfl, rfl⟩) | refine ⟨?_, ?_⟩ | fail), ⟨(fun r hr x hx => by simp at hr; subst hr; simp at hx; rcases hx with rfl | rfl | rfl | rfl <;> first | trivial | exact IsL.leafN (by assumption)), (fun x hx => by simp at hx; rcases hx with rfl | rfl; exact leaf_adr rfl; exact leaf_pval rfl), pobj_N bRows_val, trivial⟩⟩) ?_
  rintro ⟨i, hi⟩ Y0 hY0
  refine vc_norm (env' := (_ :: _ :: _ :: _ :: _ :: _ :: _ :: _ :: _ :: _ :: _ :: _ :: _ :: _ :: _ :: _ :: _ :: _ :: _ :: _ :: (.int .i64 (i : Int)) :: _ :: _ :: _ :: _ :: _ :: _ :: _ :: _ :: _ :: _ :: _ :: _ :: _ :: _ :: _ :: _ :: _ :: _ :: _ :: _ :: _ :: _ :: _ :: _ :: _ :: _ :: _ :: _ :: _ :: _ :: [])) (H' := [VO.arr 25 4 [[.str b.name, .int .i64 b.kind, b.tx, b.sx]], .one 70 [adr i, pval 2 (bRows (unloadL b (f.take i)))], pobj 5 1 (bRows (unloadL b (f.take i)))]) rfl rfl ?_
  refine vs (wr ?_)
  refine wN rfl rfl rfl (v51 rfl ?_)
  refine we rfl (vs ?_)
  refine vc_cond rfl (fun hc21 => ?_) (fun hc21 => ?_)
  ·
   have hlt : i < f.length := by have := of_decide_eq_true hc21; omega
   obtain ⟨y, hyy⟩ : ∃ y, f[i]? = some y := ⟨_, List.getElem?_eq_getElem hlt⟩
   have hri := hx.at hyy
   have hmem := List.mem_of_getElem? hyy
   obtain ⟨t, ht, ht0, ht1, hn8, hd40, hnm⟩ := line_small hv hr hmem
   have hrt : (lrows b.tx)[(y.type).toNat]? = some [.str t.name, .int .i64 t.parent, .int .i64 t.min, .int .i64 t.size, t.fx, .int .i64 t.key, .bool t.unique, .bool t.last] := by rw [hb.types.rows, List.getElem?_map, ht]; rfl
   obtain ⟨n, hn1, hn9⟩ := depth_small (b := b) (t := y.type)
   have hlen := line_len hv hr hmem
   have hul := unload_len hv hr i
   have hsn := unload_snoc (b := b) hyy
   have hln : lineL b y = [hd n] ++ [32] ++ bl t.name ++ [32] ++ hexL (bl y.data) ++ [10] := by unfold lineL; rw [hn1, hnm]; simp
   rw [hln] at hlen hsn
   have e8 : (bl t.name).length ≤ 8 := by rw [← bl_size]; exact hn8
   have e40 : (hexL (bl y.data)).length ≤ 80 := by rw [hexL_len, ← bl_size]; omega
   have hhs : (hexS y.data).size ≤ 80 := by rw [hexS, bs_size]; exact e40
   have hit := zItoa G n hn9
   rw [← hn1] at hit
   refine vc_skip (n_then (vs (vc_block (vs (wr ?_)))))
   first | refine wN (v := .iptr _ [_, _]) rfl rfl rfl (v51 rfl ?_) | (refine x_index rfl rfl ‹_› rfl el26 (by omega) ‹_› rfl (fun bo => ?_); refine v51 rfl ?_)
   refine wN (v := .agg [_, _]) rfl rfl rfl (v51 rfl ?_)
   refine w_opH (v := .ptr 3 0 0) (env' := _) (H2 := [VO.arr 25 4 [[.str b.name, .int .i64 b.kind, b.tx, b.sx]], .one 70 [adr i, pval 2 (bRows (unloadL b (f.take i)))], pobj 5 1 (bRows (unloadL b (f.take i))), .arr 64 2 [[_, _]]]) rfl rfl rfl rfl (fun _ h => h) (v51 rfl ?_)
   refine w_op0N (H2 := [VO.arr 25 4 [[.str b.name, .int .i64 b.kind, b.tx, b.sx]], .one 70 [adr i, pval 2 (bRows (unloadL b (f.take i)))], pobj 5 1 (bRows (unloadL b (f.take i))), VO.arr 64 2 [[.int .i64 y.type, .str y.data]]]) rfl rfl rfl (fun _ h => h) ?_
   refine we rfl (vs (wr ?_))
   refine wN (v := .agg [_, _, _, _]) rfl rfl rfl (v51 rfl ?_)
   refine wN (v := .ptr 3 0 0) rfl rfl rfl (v51 rfl ?_)
   refine wN rfl rfl rfl (v51 rfl ?_)
   refine w_callI (env' := _) rfl rfl rfl (by kernel_rfl) rfl (by repeat' first | exact IsL.lend ‹_› | exact IsL.lend0 ‹_› | refine mapL_cons ?_ ?_ | refine lend_agg ?_ | rfl) (zDepth G b hb y.type) rfl (v51 rfl ?_)
   iterate 5 refine wN rfl rfl rfl (v51 rfl ?_)
   refine we rfl (w_regionD (by kernel_rfl) ?_)
   refine dN rfl rfl rfl (d51 rfl ?_)
   refine d_callI (env' := _) rfl rfl rfl (by kernel_rfl) rfl (by repeat' first | exact IsL.lend ‹_› | exact IsL.lend0 ‹_› | refine mapL_cons ?_ ?_ | refine lend_agg ?_ | rfl) (hit) rfl (d51 rfl ?_)
   refine dN (v := .str (bs ([hd n] ++ [32]))) rfl (s_addG (P := Tryz.prog) (t := 9) (s := bs [hd n]) (u := bs [32]) (by rw [bs_size, bs_size]; simp) (by rw [bl_bs, bl_bs])) rfl (d51 rfl ?_)
   refine dN (v := .ptr 0 0 2) rfl rfl rfl (d51 rfl ?_)
   refine dN rfl rfl rfl (d51 rfl ?_)
   refine dN (v := .ptr 3 0 0) rfl rfl rfl (d51 rfl ?_)
   refine dN rfl rfl rfl (d51 rfl ?_)
   first | refine dN (v := .iptr _ [_, _, _, _, _, _, _, _]) rfl rfl rfl (d51 rfl ?_) | (refine y_index rfl rfl ‹_› rfl el22 (by omega) ‹_› rfl (fun bo => ?_); refine d51 rfl ?_)
   refine dN (v := .iptr _ [_, _, _, _, _, _, _, _]) rfl rfl rfl (d51 rfl ?_)
   refine dN rfl rfl rfl (d51 rfl ?_)
   refine dN (v := .str (bs ([hd n] ++ [32] ++ bl t.name))) rfl (s_addG (P := Tryz.prog) (t := 9) (s := bs ([hd n] ++ [32])) (u := t.name) (by rw [bs_size]; simp; omega) (by rw [bl_bs])) rfl (d51 rfl ?_)
   refine dN (v := .str (bs ([hd n] ++ [32] ++ bl t.name ++ [32]))) rfl (s_addG (P := Tryz.prog) (t := 9) (s := bs ([hd n] ++ [32] ++ bl t.name)) (u := bs [32]) (by rw [bs_size, bs_size]; simp; omega) (by rw [bl_bs, bl_bs])) rfl (d51 rfl ?_)
   refine dN (v := .ptr 3 0 1) rfl rfl rfl (d51 rfl ?_)
   refine dN rfl rfl rfl (d51 rfl ?_)
   refine d_callI (env' := _) rfl rfl rfl (by kernel_rfl) rfl (by repeat' first | exact IsL.lend ‹_› | exact IsL.lend0 ‹_› | refine mapL_cons ?_ ?_ | refine lend_agg ?_ | rfl) (zHexed G y.data (by omega)) rfl (d51 rfl ?_)
   refine dN (v := .str (bs ([hd n] ++ [32] ++ bl t.name ++ [32] ++ hexL (bl y.data)))) rfl (s_addG (P := Tryz.prog) (t := 9) (s := bs ([hd n] ++ [32] ++ bl t.name ++ [32])) (u := hexS y.data) (by rw [bs_size]; simp; omega) (by rw [bl_bs, hexS, bl_bs])) rfl (d51 rfl ?_)
   refine dN (v := .str (bs ([hd n] ++ [32] ++ bl t.name ++ [32] ++ hexL (bl y.data) ++ [10]))) rfl (s_addG (P := Tryz.prog) (t := 9) (s := bs ([hd n] ++ [32] ++ bl t.name ++ [32] ++ hexL (bl y.data))) (u := bs [10]) (by rw [bs_size, bs_size]; simp; omega) (by rw [bl_bs, bl_bs])) rfl (d51 rfl ?_)
   refine d_callS (v := .tup [.int .i64 ((bs ([hd n] ++ [32] ++ bl t.name ++ [32] ++ hexL (bl y.data) ++ [10])).size : Nat), .nili]) (H1 := [VO.arr 25 4 [[.str b.name, .int .i64 b.kind, b.tx, b.sx]], VO.one 70 [.ptr 1 0 0, .row false 4 0 ((bRows (unloadL b (f.take i))).length + (bs ([hd n] ++ [32] ++ bl t.name ++ [32] ++ hexL (bl y.data) ++ [10])).size)], VO.dead, VO.arr 64 2 [[.int .i64 y.type, .str y.data]], VO.arr 5 1 (bRows (unloadL b (f.take i)) ++ bRows (bl (bs ([hd n] ++ [32] ++ bl t.name ++ [32] ++ hexL (bl y.data) ++ [10]))))]) rfl rfl rfl (by kernel_rfl) rfl (zWrite G [VO.arr 25 4 [[.str b.name, .int .i64 b.kind, b.tx, b.sx]], .one 70 [adr i, pval 2 (bRows (unloadL b (f.take i)))], pobj 5 1 (bRows (unloadL b (f.take i))), VO.arr 64 2 [[.int .i64 y.type, .str y.data]]] 1 2 (adr i) (bRows (unloadL b (f.take i))) (bs ([hd n] ++ [32] ++ bl t.name ++ [32] ++ hexL (bl y.data) ++ [10])) rfl (adr_cases i) rfl (by decide) (by rw [bs_size]; exact hlen.2) (by rw [bs_size, bRows_len]; omega)) ?_
   refine d51 rfl ?_
   refine d_endB rfl (n_then (wr ?_))
   iterate 2 refine wN rfl rfl rfl (v51 rfl ?_)
   refine we rfl ?_
   have hrr : bRows (unloadL b (f.take (i + 1))) = bRows (unloadL b (f.take i)) ++ bRows (bl (bs ([hd n] ++ [32] ++ bl t.name ++ [32] ++ hexL (bl y.data) ++ [10]))) := by rw [hsn, bl_bs, bRows_app]
   have hnr : bRows (bl (bs ([hd n] ++ [32] ++ bl t.name ++ [32] ++ hexL (bl y.data) ++ [10]))) ≠ [] := by rw [bl_bs]; simp [bRows]
   refine hY0 ⟨i + 1, hlt⟩ (by simp only; omega) _ _ [0, 1, 4] ?_ (by decide) (fun _ h => absurd h (by omega)) ⟨.inr ⟨_, rfl, ren_arr (base_renO hL hLs)⟩, .inr ⟨_, rfl, one_ren (adr_ren rfl) (by show Vi.ren0 _ (pval 2 (bRows (unloadL b (f.take (i + 1))))) = _; rw [hrr]; exact (pval_app0 hnr rfl).trans (by rw [bRows_len (bl (bs _))]; rfl))⟩, .inr ⟨_, rfl, by show renO _ (pobj 5 1 (bRows (unloadL b (f.take (i + 1))))) = _; rw [hrr]; exact pobj_app hnr (by rw [← bRows_app]; exact bRows_val)⟩, trivial⟩
   repeat' first | exact trivial | refine ⟨.inl rfl, ?_⟩ | refine ⟨.inr rfl, ?_⟩ | refine ⟨.inr (IsL.ren1 ‹_›), ?_⟩ | refine ⟨(.inr (base_ren hL hLs)), ?_⟩ | refine ⟨(.inr ?_), ?_⟩ | fail
   all_goals first | exact congrArg some (int_succ (by omega)).symm
  ·
   have hge : ¬ i < f.length := by have := of_decide_eq_false hc21; omega
   have hall : f.take i = f := List.take_of_length_le (by omega)
   refine vc_exit (x_then (x_then (x_same (n_then (vs (wr ?_))))))
   have hul := unload_len hv hr i
   refine w_callS rfl rfl rfl (by kernel_rfl) rfl (zStr G [VO.arr 25 4 [[.str b.name, .int .i64 b.kind, b.tx, b.sx]], .one 70 [adr i, pval 2 (bRows (unloadL b (f.take i)))], pobj 5 1 (bRows (unloadL b (f.take i)))] 1 2 (adr i) (unloadL b (f.take i)) rfl rfl (by omega)) ?_
   rintro _ _ ⟨rfl, rfl⟩
   refine v51 rfl ?_
   iterate 2 refine wN rfl rfl rfl (v51 rfl ?_)
   refine we rfl (vc_ret (r_fn rfl ?_))
   show some (AV.tup [.str (bs (unloadL b (f.take i))), .int .i64 0]) = some (unloadV b f)
   rw [unloadV, if_pos hf0, hf0, hall]
end Go.Vi
namespace Go.Vi
open Go Go.Vi
def unhexO (h : List UInt8) : Option ByteArray := if h.length % 2 = 0 then (decL h).map bs else none
def parse1 (b : PB) (p : List UInt8) : Option PI := match splitL 32 p with
 | [_, nm, h] => if (typeE b (bs nm)).2 = 0 then (unhexO h).map fun d => ⟨(typeE b (bs nm)).1, d⟩ else none
 | _ => none
def parseAll (b : PB) : List (List UInt8) → Option (List PI)
 | [] => some []
 | p :: r => match parse1 b p with
   | some y => (parseAll b r).map (y :: ·)
   | none => none
def fits2 (b : PB) (l : List UInt8) (o : Option (List PI)) : Option (List PI) := match o with
 | some g => if forestE b g = 0 ∧ unloadL b g = l then some g else none
 | none => none
def RV (b : PB) (l : List UInt8) : Option (List PI) := fits2 b l (parseAll b (splitL 10 l).dropLast)
def reloadV (b : PB) (l : List UInt8) : AV := if baseOk b = true then (match RV b l with
    | some g => .tup [plist (g.map encI), .int .i64 0]
    | none => .tup [.nils, .int .i64 3]) else .tup [.nils, .int .i64 100]
theorem split_snoc (c : UInt8) : ∀ (m : List UInt8), splitL c (m ++ [c]) = splitL c m ++ [[]]
 | [] => by simp [splitL]
 | x :: r => by
   have ih := split_snoc c r
   rw [List.cons_append]
   by_cases e : x = c
   · rw [splitL, if_pos e, ih, splitL, if_pos e]; rfl
   · rw [splitL, if_neg e, ih, splitL, if_neg e]
     cases h : splitL c r with
     | nil => exact absurd h (split_ne c r)
     | cons w ws => rfl
theorem line_core {b : PB} {y : PI} : lineL b y = ([hd (depthE b y.type).1.toNat] ++ 32 :: (bl (nameT b y.type) ++ 32 :: hexL (bl y.data))) ++ [10] := by
 simp [lineL]
def coreL (b : PB) (y : PI) : List UInt8 := [hd (depthE b y.type).1.toNat] ++ 32 :: (bl (nameT b y.type) ++ 32 :: hexL (bl y.data))
theorem unload_end {b : PB} {f : List PI} (h : unloadL b f ≠ []) : hasL 10 (unloadL b f) = true := by
 induction f with
 | nil => exact absurd rfl h
 | cons y r ih =>
   have e : unloadL b (y :: r) = lineL b y ++ unloadL b r := by simp [unloadL]
   by_cases hr : unloadL b r = []
   · rw [e, hr, List.append_nil, line_core, hasL, List.getLast?_append]
     rfl
   · have := ih hr
     unfold hasL at this ⊢
     rw [e, List.getLast?_append]
     have hg := eq_of_beq this
     rw [hg]
     rfl
def careLines (l : List UInt8) : List (List UInt8) := if l = [] then [] else splitL 10 (trimL 10 l)
theorem care_lines (b : PB) (l : List UInt8) : fits2 b l (parseAll b (careLines l)) = RV b l := by
 unfold RV careLines
 by_cases h0 : l = []
 · subst h0
   rw [if_pos rfl]
   rfl
 · rw [if_neg h0]
   by_cases h1 : hasL 10 l = true
   · have hl : l.getLast? = some 10 := eq_of_beq h1
     obtain ⟨m, rfl⟩ : ∃ m, l = m ++ [10] := by
      rcases List.eq_nil_or_concat l with rfl | ⟨m, x, rfl⟩
      · exact absurd rfl h0
      · rw [List.concat_eq_append] at hl ⊢
        rw [List.getLast?_concat] at hl
        exact ⟨m, by rw [Option.some.inj hl]⟩
     rw [trimL, if_pos h1, List.dropLast_concat, split_snoc, List.dropLast_concat]
   · have hbad : ∀ o, fits2 b l o = none := by
      intro o
      cases o with
      | none => rfl
      | some g =>
        simp only [fits2]
        rw [if_neg]
        rintro ⟨_, h3⟩
        rw [← h3] at h1 h0
        exact h1 (unload_end h0)
     rw [hbad, hbad]
theorem hd_ne {n : Nat} (h : n < 16) : hd n ≠ 32 ∧ hd n ≠ 10 := by
 have : ∀ m : Fin 16, hd m.1 ≠ 32 ∧ hd m.1 ≠ 10 := by decide
 exact this ⟨n, h⟩
theorem hex_no {l : List UInt8} : 32 ∉ hexL l ∧ 10 ∉ hexL l := by
 have key : ∀ x ∈ hexL l, x ≠ 32 ∧ x ≠ 10 := by
  intro x hx
  simp only [hexL, List.mem_flatMap] at hx
  obtain ⟨c, _, hc⟩ := hx
  have hl := c.toNat_lt
  simp only [hexByte, List.mem_cons, List.not_mem_nil, or_false] at hc
  rcases hc with rfl | rfl
  · exact hd_ne (by omega)
  · exact hd_ne (by omega)
 exact ⟨fun h => (key _ h).1 rfl, fun h => (key _ h).2 rfl⟩
theorem name_no10 {s : ByteArray} (h : isName s = true) : 32 ∉ bl s ∧ 10 ∉ bl s := by
 have key : ∀ x ∈ bl s, x ≠ 32 ∧ x ≠ 10 := by
  intro x hx
  obtain ⟨j, hj⟩ := List.mem_iff_getElem?.1 hx
  have hlt := (List.getElem?_eq_some_iff.1 hj).1
  simp only [isName, Bool.and_eq_true] at h
  have hn := List.all_eq_true.1 h.1.1 j (List.mem_range.2 (by rw [bl_size]; exact hlt))
  rw [nameAt, get_bl, hj] at hn
  simp only [nameByte, Bool.or_eq_true, Bool.and_eq_true, decide_eq_true_eq] at hn
  constructor
  · rintro rfl
    have : (32 : UInt8).toNat = 32 := rfl
    omega
  · rintro rfl
    have : (10 : UInt8).toNat = 10 := rfl
    omega
 exact ⟨fun h => (key _ h).1 rfl, fun h => (key _ h).2 rfl⟩
theorem type_of_name {b : PB} (hv : baseOk b = true) {i : Nat} {t : PT} (ht : b.types[i]? = some t) : typeE b t.name = ((i : Int), 0) := by
 have hfi : (b.types.map encT).findIdx? (nameIs t.name) = some i := by
  rw [List.findIdx?_eq_some_iff_getElem]
  have hlt := (List.getElem?_eq_some_iff.1 ht).1
  refine ⟨by simpa using hlt, ?_, ?_⟩
  · rw [List.getElem_map, (List.getElem?_eq_some_iff.1 ht).2]
    show seq t.name t.name = true
    exact seq_self _
  · intro j hj
    rw [List.getElem_map]
    have hr := hv
    rw [valid_eq] at hr
    simp only [refOk, Bool.and_eq_true] at hr
    have := List.all_eq_true.1 hr.1.2 i (List.mem_range.2 hlt)
    simp only [refTypeAt, ht, refType, Bool.and_eq_true] at this
    have h2 := this.1.2
    simp only [twiceT, Bool.not_eq_true', List.any_eq_false] at h2
    have h3 := h2 b.types[j] (List.mem_iff_getElem?.2 ⟨j, by rw [List.getElem?_take_of_lt hj]; exact List.getElem?_eq_getElem (by omega)⟩)
    exact h3
 rw [typeE, if_pos hv, hfi]
theorem parse_core {b : PB} {f : List PI} (hv : baseOk b = true) (hr : rightP b f = true) {y : PI} (hy : y ∈ f) : parse1 b (coreL b y) = some y ∧ 10 ∉ coreL b y := by
 obtain ⟨t, ht, h0, h1, h2, h3, h4⟩ := line_small hv hr hy
 obtain ⟨n, hn, hn9⟩ := depth_small (b := b) (t := y.type)
 have hk := ok_types hv ht
 simp only [typeOk, Bool.and_eq_true] at hk
 have h5 := hk.1
 simp only [typeHead, Bool.not_eq_true', Bool.or_eq_false_iff, Bool.not_eq_false'] at h5
 have hnm := name_no10 h5.1.1.1.1
 have hh := hex_no (l := bl y.data)
 have hd1 := hd_ne (n := n) (by omega)
 have ha : (32 : UInt8) ∉ [hd n] ∧ (10 : UInt8) ∉ [hd n] := by
  constructor
  · intro h; simp at h; exact hd1.1 h.symm
  · intro h; simp at h; exact hd1.2 h.symm
 have ht2 := type_of_name hv ht
 have e : (y.type.toNat : Int) = y.type := by omega
 constructor
 · rw [parse1, coreL, hn, h4, Int.toNat_natCast, split_app ha.1, split_app hnm.1, split_none hh.1]
   simp only
   rw [bs_bl, ht2, unhexO, dec_hex, if_pos rfl, if_pos (by rw [hexL_len]; omega)]
   simp only [Option.map_some, bs_bl, e]
 · rw [coreL, hn, h4, Int.toNat_natCast]
   intro h
   simp only [List.mem_append, List.mem_cons] at h
   rcases h with h | h | h | h | h
   · exact ha.2 (by simpa using h)
   · cases h
   · exact hnm.2 h
   · cases h
   · exact hh.2 h
theorem split_unload {b : PB} : ∀ (g : List PI), (∀ y ∈ g, 10 ∉ coreL b y) → splitL 10 (unloadL b g) = g.map (coreL b) ++ [[]]
 | [], _ => rfl
 | y :: r, h => by
   have ih := split_unload r (fun z hz => h z (List.mem_cons_of_mem _ hz))
   have e : unloadL b (y :: r) = coreL b y ++ 10 :: unloadL b r := by
    simp [unloadL, line_core, coreL]
   rw [e, split_app (h y (List.mem_cons_self ..)), ih]
   rfl
theorem parse_map {b : PB} : ∀ (g : List PI), (∀ y ∈ g, parse1 b (coreL b y) = some y) → parseAll b (g.map (coreL b)) = some g
 | [], _ => rfl
 | y :: r, h => by
   rw [List.map_cons, parseAll, h y (List.mem_cons_self ..), parse_map r (fun z hz => h z (List.mem_cons_of_mem _ hz))]
   rfl
theorem round_trip {b : PB} {f : List PI} (h : forestE b f = 0) : RV b (unloadL b f) = some f := by
 obtain ⟨hv, hr⟩ := forest_ok h
 rw [RV, split_unload f (fun y hy => (parse_core hv hr hy).2), List.dropLast_concat, parse_map f (fun y hy => (parse_core hv hr hy).1), fits2, if_pos ⟨h, rfl⟩]
structure PInv (b : PB) (ps : List (List UInt8)) (i : Nat) (g : List PI) : Prop where
 le : i ≤ ps.length
 len : g.length = i
 eq : parseAll b ps = (parseAll b (ps.drop i)).map (g ++ ·)
 short : ∀ y ∈ g, y.data.size ≤ 1000000
theorem pinv0 (b : PB) (ps : List (List UInt8)) : PInv b ps 0 [] := ⟨by omega, rfl, by simp, fun y h => by cases h⟩
theorem PInv.bad {b : PB} {ps : List (List UInt8)} {i : Nat} {g : List PI} {p : List UInt8} (h : PInv b ps i g) (hp : ps[i]? = some p) (hb : parse1 b p = none) : parseAll b ps = none := by
 rw [h.eq, drop_at' hp, parseAll, hb]
 rfl
theorem PInv.next {b : PB} {ps : List (List UInt8)} {i : Nat} {g : List PI} {p : List UInt8} {y : PI} (h : PInv b ps i g) (hp : ps[i]? = some p) (hb : parse1 b p = some y) (hs : y.data.size ≤ 1000000) : PInv b ps (i + 1) (g ++ [y]) := by
 refine ⟨(List.getElem?_eq_some_iff.1 hp).1, by have := h.len; simp; omega, ?_, ?_⟩
 · rw [h.eq, drop_at' hp, parseAll, hb]
   simp only [Option.map_map]
   congr 1
   funext x
   simp
 · intro z hz
   rcases List.mem_append.1 hz with hz | hz
   · exact h.short z hz
   · simp at hz; subst hz; exact hs
theorem PInv.done {b : PB} {ps : List (List UInt8)} {i : Nat} {g : List PI} (h : PInv b ps i g) (hi : ps.length ≤ i) : parseAll b ps = some g := by
 rw [h.eq, List.drop_of_length_le hi]
 simp [parseAll]
theorem split_small {c : UInt8} : ∀ (l : List UInt8), ∀ p ∈ splitL c l, p.length ≤ l.length
 | [], p, hp => by simp [splitL] at hp; subst hp; simp
 | x :: r, p, hp => by
   have ih := split_small (c := c) r
   unfold splitL at hp
   split at hp
   · rcases List.mem_cons.1 hp with rfl | hp
     · simp
     · have := ih p hp; simp; omega
   · split at hp
     · simp at hp; subst hp; simp
     · rename_i w ws hw
       rcases List.mem_cons.1 hp with rfl | hp
       · have := ih w (by rw [hw]; exact List.mem_cons_self ..); simp; omega
       · have := ih p (by rw [hw]; exact List.mem_cons_of_mem _ hp); simp; omega
theorem dec_small : ∀ (l o : List UInt8), decL l = some o → o.length ≤ l.length
 | [], o, h => by simp [decL] at h; subst h; simp
 | [a], o, h => by simp [decL] at h; subst h; simp
 | a :: c :: r, o, h => by
   rw [decL] at h
   split at h
   · cases h
   · obtain ⟨z, h1, h2⟩ := Option.map_eq_some_iff.1 h
     have := dec_small r z h1
     subst h2
     simp
     omega
theorem fits_200 {b : PB} {l : List UInt8} {g : List PI} (h : 200 < g.length) : fits2 b l (some g) = none := by
 rw [fits2, if_neg]
 rintro ⟨h1, _⟩
 have := right_200 (forest_ok h1).2
 omega
theorem PInv.many {b : PB} {ps : List (List UInt8)} {i : Nat} {g : List PI} {p : List UInt8} {l : List UInt8} (h : PInv b ps i g) (hp : ps[i]? = some p) (hg : g.length = 200) : fits2 b l (parseAll b ps) = none := by
 rw [h.eq, drop_at' hp, parseAll]
 cases parse1 b p with
 | none => rfl
 | some y =>
   cases parseAll b (ps.drop (i + 1)) with
   | none => rfl
   | some r =>
     simp only [Option.map_some]
     exact fits_200 (by simp; omega)
end Go.Vi
namespace Go.Vi
open Go Go.Vi Go.Proofs
attribute [local irreducible] vops vopsD vc
theorem zc64 : zcOf Tryz.prog 64 = some [.int .i64 0, .str ⟨#[]⟩] := by kernel_rfl
theorem by64 : byOf Tryz.prog 64 = some 24 := by kernel_rfl
theorem items_val {g : List PI} : allVal (g.map encI) = true := List.all_eq_true.2 fun r hr => by
 obtain ⟨y, _, rfl⟩ := List.mem_map.1 hr
 rfl
def plend (rows : List (List AV)) : AV := if rows = [] then .nils else .list .bor rows
theorem IsL_plend {rows : List (List AV)} : IsL (plend rows) := by
 unfold plend; split
 · exact .inl rfl
 · exact .inr ⟨_, _, rfl⟩
theorem lrows_plend {rows : List (List AV)} : lrows (plend rows) = rows := by
 unfold plend; split
 · rename_i h; rw [h]; rfl
 · rfl
theorem lend_pv {H : Hp} {L sz : Nat} {e : TypeId} {rows : List (List AV)} (h : H[L]? = some (pobj e sz rows)) (hv : allVal rows = true) : lend H (pval L rows) = some (plend rows) := by
 unfold pval plend
 split
 · rfl
 · rename_i hp
   rw [pobj, if_neg hp] at h
   have hr : rowsOf H (.row false L 0 rows.length) = some rows := by simp [rowsOf, h]
   show lend0 H (.row false L 0 rows.length) = _
   simp only [lend0, hr, hv, if_true]
theorem items_lend {g : List PI} (hs : ∀ y ∈ g, y.data.size ≤ 1000000) (hl : g.length ≤ 1000001) : ItemsIs (plend (g.map encI)) g :=
 ⟨IsL_plend, lrows_plend, fun y hy => by have := hs y hy; omega, by omega⟩
theorem unhex_tup (s : ByteArray) : ∃ v ok, unhexV s = .tup [.str v, .bool ok] ∧ v.size ≤ s.size ∧ (ok = true → unhexO (bl s) = some v) ∧ (ok = false → unhexO (bl s) = none) := by
 unfold unhexV
 cases h : decL (bl s) with
 | none => exact ⟨_, _, rfl, Nat.zero_le _, fun e => (by cases e), fun _ => by rw [unhexO, h]; split <;> rfl⟩
 | some o =>
   refine ⟨_, _, rfl, by rw [bs_size, bl_size]; exact dec_small _ _ h, fun e => ?_, fun e => ?_⟩
   · rw [unhexO, if_pos (by rw [← bl_size]; exact of_decide_eq_true e), h]; rfl
   · rw [unhexO, if_neg (by rw [← bl_size]; exact of_decide_eq_false e)]
theorem from_tup (s : ByteArray) : ∃ v ok, fromV s = .tup [.str v, .bool ok] ∧ v.size ≤ s.size ∧ (ok = true → unhexO (bl s) = some v) ∧ (ok = false → unhexO (bl s) = none) := by
 unfold fromV
 split
 · rename_i h1
   exact ⟨_, _, rfl, Nat.zero_le _, fun e => (by cases e), fun _ => by rw [unhexO, if_neg (by rw [← bl_size]; omega)]⟩
 · rename_i h1
   cases h : decL (bl s) with
   | none => exact ⟨_, _, rfl, Nat.zero_le _, fun e => (by cases e), fun _ => by rw [unhexO, h]; split <;> rfl⟩
   | some o =>
     refine ⟨_, _, rfl, by rw [bs_size, bl_size]; exact dec_small _ _ h, fun e => ?_, fun e => (by cases e)⟩
     rw [unhexO, if_pos (by rw [← bl_size]; omega), h]; rfl
theorem seq_nil : seq (bs []) ⟨#[]⟩ = true := seq_eq.2 rfl
theorem three {α : Type} {l : List α} (h : l.length = 3) : ∃ a c d, l = [a, c, d] := by
 match l, h with
 | [a, c, d], _ => exact ⟨a, c, d, rfl⟩
theorem parse_three {b : PB} {p : List UInt8} (h : (splitL 32 p).length ≠ 3) : parse1 b p = none := by
 unfold parse1
 split
 · rename_i a n x hx; rw [hx] at h; exact absurd rfl h
 · rfl
theorem rv_none {b : PB} {l : List UInt8} (hv : baseOk b = true) (h : RV b l = none) : some (AV.tup [.nils, .int .i64 3]) = some (reloadV b l) := by
 rw [reloadV, if_pos hv, h]
theorem rv_some {b : PB} {l : List UInt8} {g : List PI} (hv : baseOk b = true) (h : RV b l = some g) : some (AV.tup [plist (g.map encI), .int .i64 0]) = some (reloadV b l) := by
 rw [reloadV, if_pos hv, h]
theorem careLines_ne {l : List UInt8} (h : l ≠ []) : careLines l = splitL 10 (trimL 10 l) := by rw [careLines, if_neg h]
theorem split_count (c : UInt8) : ∀ (l : List UInt8), (splitL c l).length ≤ l.length + 1
 | [] => by simp [splitL]
 | x :: r => by
   have ih := split_count c r
   unfold splitL
   split
   · simp; omega
   · split
     · simp
     · rename_i w ws hw
       rw [hw] at ih
       simp at ih ⊢
       omega
set_option maxHeartbeats 8000000 in
theorem zReload (G : Glob) (b : PB) (hb : BaseV b) (l : List UInt8) (hlen : l.length ≤ 1000000) : Vi.Fn Tryz.prog G 12 [.agg (encB b), .str (bs l)] (reloadV b l) := by
 have hL := hb.types.isL
 have hLs := hb.search.isL
 have htv := hb.txv
 have hsv := hb.sxv
 have hxl : (lrows b.tx).length = b.types.length := by rw [hb.types.rows]; simp
 have htl : (trimL 10 l).length ≤ l.length := by unfold trimL; split; rw [List.length_dropLast]; omega; omega
 have hpl : ∀ p ∈ splitL 10 (trimL 10 l), p.length ≤ 1000000 := fun p hp => by have := split_small (trimL 10 l) p hp; omega
 have hsl : (splitL 10 (trimL 10 l)).length ≤ 1000001 := by have := split_count 10 (trimL 10 l); omega
 have h1 : 1 ≤ (splitL 10 (trimL 10 l)).length := by have := split_ne 10 (trimL 10 l); cases h : splitL 10 (trimL 10 l); exact absurd h this; simp
 refine fn_body (fun _ => .iso) Tryz.func12 rfl ?_
 refine vc_norm (env' := (_ :: _ :: _ :: _ :: _ :: _ :: _ :: _ :: _ :: _ :: _ :: _ :: _ :: _ :: _ :: _ :: _ :: _ :: _ :: _ :: _ :: _ :: _ :: _ :: _ :: _ :: _ :: _ :: _ :: _ :: _ :: _ :: _ :: _ :: _ :: _ :: _ :: _ :: _ :: _ :: _ :: _ :: _ :: _ :: _ :: _ :: _ :: _ :: _ :: _ :: _ :: _ :: _ :: _ :: _ :: _ :: _ :: _ :: _ :: _ :: _ :: _ :: _ :: _ :: _ :: _ :: _ :: _ :: _ :: _ :: _ :: _ :: _ :: _ :: _ :: _ :: _ :: _ :: _ :: _ :: _ :: _ :: _ :: _ :: _ :: [])) (H' := []) rfl rfl ?_
 refine vs (wr ?_)
 refine w_opH (v := .ptr 0 0 0) (env' := _) (H2 := [.arr 25 4 [[_, _, _, _]]]) rfl rfl rfl rfl (fun _ h => h) (v85 rfl ?_)
 iterate 2 refine wN rfl rfl rfl (v85 rfl ?_)
 refine we rfl (vs (vs (wr ?_)))
 refine wN (v := .agg [_, _, _, _]) rfl rfl rfl (v85 rfl ?_)
 refine w_callI (env' := _) rfl rfl rfl (by kernel_rfl) rfl (by repeat' first | exact IsL.lend ‹_› | exact IsL.lend0 ‹_› | refine mapL_cons ?_ ?_ | refine lend_agg ?_ | rfl) (zValid G b hb.toBaseIs) rfl (v85 rfl ?_)
 refine wN rfl rfl rfl (v85 rfl ?_)
 refine we rfl ?_
 refine vc_cond rfl (fun hc18 => ?_) (fun hc18 => ?_)
 ·
  have hv : ¬ baseOk b = true := by simpa using hc18
  refine vs (wr ?_)
  iterate 2 refine wN rfl rfl rfl (v85 rfl ?_)
  refine we rfl (vc_ret (r_then (r_fn rfl ?_)))
  show some (AV.tup [.nils, .int .i64 100]) = some (reloadV b l)
  rw [reloadV, if_neg hv]
 ·
  have hv : baseOk b = true := by simpa using hc18
  refine vc_skip (n_then (vs (wr ?_)))
  refine wN rfl rfl rfl (v85 rfl ?_)
  refine we rfl (vs (vs (wr ?_)))
  refine wN rfl rfl rfl (v85 rfl ?_)
  refine w_callI (env' := _) rfl rfl rfl (by kernel_rfl) rfl (by repeat' first | exact IsL.lend ‹_› | exact IsL.lend0 ‹_› | refine mapL_cons ?_ ?_ | refine lend_agg ?_ | rfl) (zTrim G l 10 hlen) rfl (v85 rfl ?_)
  refine w_callI (env' := _) rfl rfl rfl (by kernel_rfl) rfl (by repeat' first | exact IsL.lend ‹_› | exact IsL.lend0 ‹_› | refine mapL_cons ?_ ?_ | refine lend_agg ?_ | rfl) (zSplit G (trimL 10 l) 10 (by omega)) rfl (v85 rfl ?_)
  first | refine wN rfl rfl rfl (v85 rfl ?_) | refine x_len rfl rfl ‹_› Tryz.underlying82 rfl (v85 rfl ?_)
  refine wN rfl rfl rfl (v85 rfl ?_)
  refine we rfl (vc_block ?_)
  refine vc_loopN (α := { a : Nat × List PI // PInv b (splitL 10 (trimL 10 l)) a.1 a.2 ∧ (l = [] → a.1 = 0 ∧ a.2 = []) }) (fun a => (rnone 4 ++ ([some .undef, some .undef, some (pval 1 (a.1.2.map encI)), none] ++ (rundef 6 ++ (rnone 9 ++ ([some (.int .i64 (a.1.1 : Nat))] ++ (rundef 47 ++ (rnone 14)))))))) (fun a => [VO.arr 25 4 [[.str b.name, .int .i64 b.kind, b.tx, b.sx]], pobj 64 2 (a.1.2.map encI)]) (fun a => (splitL 10 (trimL 10 l)).length - a.1.1) ⟨(0, []), pinv0 b _, fun _ => ⟨rfl, rfl⟩⟩ [0, 1] (by repeat' first | exact trivial | refine ⟨.inl rfl, ?_⟩ | refine ⟨.inr rfl, ?_⟩ | refine ⟨.inr (IsL.ren1 ‹_›), ?_⟩ | refine ⟨(.inr (base_ren hL hLs)), ?_⟩ | fail) (by decide) (fun _ h => absurd h (by omega)) ⟨.inr ⟨_, rfl, ren_arr (base_renO hL hLs)⟩, .inl rfl, trivial⟩ (fun a => ⟨Nat.zero_le _, (by repeat' first | exact trivial | exact .inr ⟨_, rfl, rfl⟩ | exact IsL.valN ‹_› | exact (base_N hL hLs) | exact (pval_N rfl) | refine ⟨?_, ?_⟩ | fail), ⟨(fun r hr x hx => by simp at hr; subst hr; simp at hx; rcases hx with rfl | rfl | rfl | rfl <;> first | trivial | exact IsL.leafN (by assumption)), pobj_N items_val, trivial⟩⟩) ?_
  rintro ⟨⟨i, g⟩, hI, hIz⟩ Y0 hY0
  refine vc_norm (env' := (_ :: _ :: _ :: _ :: _ :: _ :: (pval 1 (g.map encI)) :: _ :: _ :: _ :: _ :: _ :: _ :: _ :: _ :: _ :: _ :: _ :: _ :: _ :: _ :: _ :: _ :: (.int .i64 (i : Int)) :: _ :: _ :: _ :: _ :: _ :: _ :: _ :: _ :: _ :: _ :: _ :: _ :: _ :: _ :: _ :: _ :: _ :: _ :: _ :: _ :: _ :: _ :: _ :: _ :: _ :: _ :: _ :: _ :: _ :: _ :: _ :: _ :: _ :: _ :: _ :: _ :: _ :: _ :: _ :: _ :: _ :: _ :: _ :: _ :: _ :: _ :: _ :: _ :: _ :: _ :: _ :: _ :: _ :: _ :: _ :: _ :: _ :: _ :: _ :: _ :: _ :: [])) (H' := [VO.arr 25 4 [[.str b.name, .int .i64 b.kind, b.tx, b.sx]], pobj 64 2 (g.map encI)]) rfl rfl ?_
  replace hI : PInv b (splitL 10 (trimL 10 l)) i g := hI
  replace hIz : l = [] → i = 0 ∧ g = [] := hIz
  have hIl := hI.le
  have hIg := hI.len
  have hgl : (g.map encI).length = g.length := by simp
  refine vs (wr ?_)
  refine wN rfl rfl rfl (v85 rfl ?_)
  refine we rfl (vs ?_)
  refine vc_cond rfl (fun hc24 => ?_) (fun hc24 => ?_)
  ·
   have hlt : i < (splitL 10 (trimL 10 l)).length := by have := of_decide_eq_true hc24; rw [sRows_len] at this; omega
   obtain ⟨p, hp⟩ : ∃ p, (splitL 10 (trimL 10 l))[i]? = some p := ⟨_, List.getElem?_eq_getElem hlt⟩
   have hp6 := hpl p (List.mem_of_getElem? hp)
   have hrow : (sRows (splitL 10 (trimL 10 l)))[((i : Nat) : Int).toNat]? = some [.str (bs p)] := by rw [Int.toNat_natCast, sRows, List.getElem?_map, hp]; rfl
   refine vc_skip (n_then (vs (vc_block (vs (wr ?_)))))
   refine wN (v := .iptr (Tg.loose == .bor) [.str (bs p)]) rfl (g_list el82 (by omega) hrow rfl) rfl (v85 rfl ?_)
   iterate 2 refine wN rfl rfl rfl (v85 rfl ?_)
   refine we rfl (vs (wr ?_))
   refine wN rfl rfl rfl (v85 rfl ?_)
   refine w_callI (env' := _) rfl rfl rfl (by kernel_rfl) rfl (by repeat' first | exact IsL.lend ‹_› | exact IsL.lend0 ‹_› | refine mapL_cons ?_ ?_ | refine lend_agg ?_ | rfl) (zSplit G p 32 hp6) rfl (v85 rfl ?_)
   refine wN rfl rfl rfl (v85 rfl ?_)
   refine we rfl (vs (vs (wr ?_)))
   iterate 3 refine wN rfl rfl rfl (v85 rfl ?_)
   refine w_split 31 rfl (fun hg31 => ?_) (fun hg31 => ?_)
   ·
    refine v85 rfl ?_
    iterate 2 refine wN (wanted_t 31 (by kernel_rfl) rfl) rfl rfl (v85 rfl ?_)
    refine wN rfl rfl rfl (v85 rfl ?_)
    refine we rfl ?_
    refine vc_cond rfl (fun hc34 => ?_) (fun hc34 => ?_)
    ·
     have hl0 : l = [] := by have := congrArg bl (seq_eq.1 hc34); rw [bl_bs] at this; exact this
     have hdn : parseAll b (careLines l) = some g := by rw [careLines, if_pos hl0, (hIz hl0).2]; rfl
     refine vc_exit (x_then ?_)
     refine x_other (by decide) ?_
     refine x_then (x_then (x_same (n_then (vs (vs (wr ?_))))))
     refine wN (v := .agg [_, _, _, _]) rfl rfl rfl (v85 rfl ?_)
     refine wN rfl rfl rfl (v85 rfl ?_)
     refine w_callI (env' := _) rfl rfl rfl (by kernel_rfl) rfl (mapL_cons (lend_agg (mapL_cons rfl (mapL_cons rfl (mapL_cons hL.lend0 (mapL_cons hLs.lend0 rfl))))) (mapL_cons (lend_pv (e := 64) (sz := 2) rfl items_val) rfl)) (zUnload G b hb (plend (g.map encI)) g (items_lend hI.short (by omega))) rfl (v85 rfl ?_)
     iterate 5 refine wN rfl rfl rfl (v85 rfl ?_)
     refine we rfl (vs (wr ?_))
     iterate 3 refine wN rfl rfl rfl (v85 rfl ?_)
     refine w_split 79 rfl (fun hg79 => ?_) (fun hg79 => ?_)
     ·
      refine v85 rfl ?_
      iterate 3 refine wS (wanted_f 79 (by kernel_rfl) rfl) (v85 rfl ?_)
      refine wN rfl rfl rfl (v85 rfl ?_)
      refine we rfl ?_
      refine vc_true rfl ?_
      refine vs (wr ?_)
      iterate 2 refine wN rfl rfl rfl (v85 rfl ?_)
      refine we rfl (vc_ret (r_then (r_fn rfl ?_)))
      have hrv : RV b l = none := by rw [← care_lines, hdn, fits2, if_neg (fun h => by rw [h.1] at hg79; simp at hg79)]
      exact rv_none hv hrv
     ·
      refine v85 rfl ?_
      iterate 3 refine wN (wanted_t 79 (by kernel_rfl) rfl) rfl rfl (v85 rfl ?_)
      refine wN rfl rfl rfl (v85 rfl ?_)
      refine we rfl ?_
      refine vc_cond rfl (fun hc83 => ?_) (fun hc83 => ?_)
      ·
       refine vs (wr ?_)
       iterate 2 refine wN rfl rfl rfl (v85 rfl ?_)
       refine we rfl (vc_ret (r_then (r_fn rfl ?_)))
       have hrv : RV b l = none := by rw [← care_lines, hdn, fits2, if_neg (fun h => by rw [h.1] at hc83; simp only [if_true, h.2, seq_self, Bool.not_true] at hc83; cases hc83)]
       exact rv_none hv hrv
      ·
       refine vc_skip (n_then (vs (wr ?_)))
       iterate 3 refine wN rfl rfl rfl (v85 rfl ?_)
       refine we rfl (vc_ret (r_fn rfl ?_))
       have hf0 : forestE b g = 0 := by simpa using hg79
       have hul : unloadL b g = l := by rw [if_pos hf0] at hc83; simp only [Bool.not_eq_false'] at hc83; have := congrArg bl (seq_eq.1 hc83); rw [bl_bs, bl_bs] at this; exact this
       have hrv : RV b l = some g := by rw [← care_lines, hdn, fits2, if_pos ⟨hf0, hul⟩]
       rw [← rv_some hv hrv]
       exact ret_tup2 (ret_pval (L := 1) (e := 64) (sz := 2) items_val rfl) rfl
    ·
     have hl0 : l ≠ [] := fun e => by rw [e, seq_nil] at hc34; cases hc34
     have hcl := careLines_ne hl0
     refine vc_skip (n_then (vs (vs (wr ?_))))
     refine wN rfl rfl rfl (v85 rfl ?_)
     first | refine wN rfl rfl rfl (v85 rfl ?_) | refine x_len rfl rfl ‹_› Tryz.underlying82 rfl (v85 rfl ?_)
     iterate 2 refine wN rfl rfl rfl (v85 rfl ?_)
     refine w_split 38 rfl (fun hg38 => ?_) (fun hg38 => ?_)
     ·
      refine v85 rfl ?_
      iterate 3 refine wS (wanted_f 38 (by kernel_rfl) rfl) (v85 rfl ?_)
      refine wN rfl rfl rfl (v85 rfl ?_)
      refine we rfl ?_
      refine vc_true rfl ?_
      refine vs (wr ?_)
      iterate 2 refine wN rfl rfl rfl (v85 rfl ?_)
      refine we rfl (vc_ret (r_then (r_block (r_then (r_then (r_block (r_then (r_fn rfl ?_))))))))
      have hrv : RV b l = none := by rw [← care_lines, hcl, hI.bad hp (parse_three (by have := hg38; simp [sRows_len] at this; omega))]; rfl
      exact rv_none hv hrv
     ·
      refine v85 rfl ?_
      refine wN (wanted_t 38 (by kernel_rfl) rfl) rfl rfl (v85 rfl ?_)
      refine wN (v := .int .i64 ((g.map encI).length : Nat)) (wanted_t 38 (by kernel_rfl) rfl) (pval_len Tryz.underlying26) rfl (v85 rfl ?_)
      refine wN (wanted_t 38 (by kernel_rfl) rfl) rfl rfl (v85 rfl ?_)
      refine wN rfl rfl rfl (v85 rfl ?_)
      refine we rfl ?_
      refine vc_cond rfl (fun hc42 => ?_) (fun hc42 => ?_)
      ·
       refine vs (wr ?_)
       iterate 2 refine wN rfl rfl rfl (v85 rfl ?_)
       refine we rfl (vc_ret (r_then (r_block (r_then (r_then (r_block (r_then (r_fn rfl ?_))))))))
       have hrv : RV b l = none := by rw [← care_lines, hcl]; exact hI.many hp (by have := hc42; simp at this; omega)
       exact rv_none hv hrv
      ·
       have hg200 : g.length ≠ 200 := by have := hc42; simp at this; omega
       obtain ⟨pa, nm, px, hw⟩ := three (l := splitL 32 p) (by have := hg38; simp [sRows_len] at this; omega)
       have hnml : nm.length ≤ p.length := split_small p nm (by rw [hw]; simp)
       have hpxl : px.length ≤ p.length := split_small p px (by rw [hw]; simp)
       obtain ⟨v, ok, hv1, hv2, hv3, hv4⟩ := unhex_tup (bs px)
       rw [bl_bs] at hv3 hv4
       rw [bs_size] at hv2
       have hunx := zUnhexed G (bs px) (by rw [bs_size]; omega)
       rw [hv1] at hunx
       have hp1 : parse1 b p = if (typeE b (bs nm)).2 = 0 then (unhexO px).map fun d => ⟨(typeE b (bs nm)).1, d⟩ else none := by rw [parse1, hw]
       refine vc_skip (n_then (vs (w_regionD (by kernel_rfl) ?_)))
       refine dN (v := .agg [_, _, _, _]) rfl rfl rfl (d85 rfl ?_)
       refine dN rfl rfl rfl (d85 rfl ?_)
       refine dN (v := .iptr (Tg.loose == .bor) [.str (bs nm)]) rfl (g_list (n := 1) el82 (by omega) (by rw [hw]; rfl) rfl) rfl (d85 rfl ?_)
       refine dN rfl rfl rfl (d85 rfl ?_)
       refine d_callI (env' := _) rfl rfl rfl (by kernel_rfl) rfl (by repeat' first | exact IsL.lend ‹_› | exact IsL.lend0 ‹_› | refine mapL_cons ?_ ?_ | refine lend_agg ?_ | rfl) (zType G b hb (bs nm)) rfl (d85 rfl ?_)
       iterate 5 refine dN rfl rfl rfl (d85 rfl ?_)
       refine d_end rfl (vs (wr ?_))
       refine wN rfl rfl rfl (v85 rfl ?_)
       refine wN (v := .iptr (Tg.loose == .bor) [.str (bs px)]) rfl (g_list (n := 2) el82 (by omega) (by rw [hw]; rfl) rfl) rfl (v85 rfl ?_)
       refine wN rfl rfl rfl (v85 rfl ?_)
       refine w_callI (env' := _) rfl rfl rfl (by kernel_rfl) rfl (by repeat' first | exact IsL.lend ‹_› | exact IsL.lend0 ‹_› | refine mapL_cons ?_ ?_ | refine lend_agg ?_ | rfl) (hunx) rfl (v85 rfl ?_)
       iterate 5 refine wN rfl rfl rfl (v85 rfl ?_)
       refine we rfl (vs (vs (wr ?_)))
       iterate 3 refine wN rfl rfl rfl (v85 rfl ?_)
       refine w_split 60 rfl (fun hg60 => ?_) (fun hg60 => ?_)
       ·
        refine v85 rfl ?_
        iterate 2 refine wS (wanted_f 60 (by kernel_rfl) rfl) (v85 rfl ?_)
        refine wN rfl rfl rfl (v85 rfl ?_)
        refine we rfl ?_
        refine vc_true rfl ?_
        refine vs (wr ?_)
        iterate 2 refine wN rfl rfl rfl (v85 rfl ?_)
        refine we rfl (vc_ret (r_then (r_block (r_then (r_then (r_block (r_then (r_fn rfl ?_))))))))
        have hrv : RV b l = none := by rw [← care_lines, hcl, hI.bad hp (by rw [hp1, if_neg (by simpa using hg60)])]; rfl
        exact rv_none hv hrv
       ·
        refine v85 rfl ?_
        iterate 2 refine wN (wanted_t 60 (by kernel_rfl) rfl) rfl rfl (v85 rfl ?_)
        refine wN rfl rfl rfl (v85 rfl ?_)
        refine we rfl ?_
        refine vc_cond rfl (fun hc63 => ?_) (fun hc63 => ?_)
        ·
         refine vs (wr ?_)
         iterate 2 refine wN rfl rfl rfl (v85 rfl ?_)
         refine we rfl (vc_ret (r_then (r_block (r_then (r_then (r_block (r_then (r_fn rfl ?_))))))))
         have hrv : RV b l = none := by rw [← care_lines, hcl, hI.bad hp (by rw [hp1, hv4 (by simpa using hc63)]; split <;> rfl)]; rfl
         exact rv_none hv hrv
        ·
         have hty : (typeE b (bs nm)).2 = 0 := by simpa using hg60
         have hokt : ok = true := by simpa using hc63
         have hpy : parse1 b p = some (⟨(typeE b (bs nm)).1, v⟩ : PI) := by rw [hp1, if_pos hty, hv3 hokt]; rfl
         have hgn : (g ++ [(⟨(typeE b (bs nm)).1, v⟩ : PI)]).map encI = (g.map encI) ++ [[.int .i64 (typeE b (bs nm)).1, .str v]] := by simp [encI]
         refine vc_skip (n_then (wr ?_))
         iterate 3 refine wN rfl rfl rfl (v85 rfl ?_)
         refine wN (v := .agg [_, _]) rfl rfl rfl (v85 rfl ?_)
         refine wN rfl rfl rfl (v85 rfl ?_)
         refine w_opH (v := .row false 2 0 (g.length + 1)) (env' := _) (H2 := [VO.arr 25 4 [[.str b.name, .int .i64 b.kind, b.tx, b.sx]], .dead, .arr 64 2 ((g.map encI) ++ [[.int .i64 (typeE b (bs nm)).1, .str v]])]) rfl ((acc_append (H := [VO.arr 25 4 [[.str b.name, .int .i64 b.kind, b.tx, b.sx]], pobj 64 2 (g.map encI)]) (pgs := (g.map encI)) (news := [[.int .i64 (typeE b (bs nm)).1, .str v]]) (x := .list .tight [[.int .i64 (typeE b (bs nm)).1, .str v]]) (L := 1) (sz := 2) rfl el26 Tryz.underlying26 rfl zc64 by64 rfl rfl (by decide) (by decide) rfl rfl (by simp) rfl (by rw [hgl]; simp; omega)).trans (by rw [hgl]; rfl)) rfl (rfl) (fun _ h => h) (v85 rfl ?_)
         refine wN rfl rfl rfl (v85 rfl ?_)
         refine w_endB rfl (n_then (wr ?_))
         iterate 2 refine wN rfl rfl rfl (v85 rfl ?_)
         refine we rfl ?_
         refine hY0 ⟨(i + 1, g ++ [(⟨(typeE b (bs nm)).1, v⟩ : PI)]), hI.next hp hpy (by show v.size ≤ 1000000; omega), fun e => absurd e hl0⟩ (by simp only; omega) _ _ [0, 2] ?_ (by decide) (fun _ h => absurd h (by omega)) ⟨.inr ⟨_, rfl, ren_arr (base_renO hL hLs)⟩, .inr ⟨_, rfl, by show renO _ (pobj 64 2 ((g ++ [(⟨(typeE b (bs nm)).1, v⟩ : PI)]).map encI)) = _; rw [hgn]; exact pobj_snoc (by rw [← hgn]; exact items_val)⟩, trivial⟩
         repeat' first | exact trivial | refine ⟨.inl rfl, ?_⟩ | refine ⟨.inr rfl, ?_⟩ | refine ⟨.inr (IsL.ren1 ‹_›), ?_⟩ | refine ⟨(.inr (base_ren hL hLs)), ?_⟩ | refine ⟨(.inr (by show Vi.ren1 _ (pval 1 ((g ++ [(⟨(typeE b (bs nm)).1, v⟩ : PI)]).map encI)) = _; rw [hgn]; exact (pval_snoc rfl).trans (by rw [hgl]))), ?_⟩ | refine ⟨(.inr ?_), ?_⟩ | fail
         all_goals first | exact congrArg some (int_succ (by omega)).symm
   ·
    have hl0 : l ≠ [] := fun e => by subst e; have hi0 := (hIz rfl).1; subst hi0; have hpe : p = [] := (by simpa [trimL, hasL, splitL] using hp.symm); rw [hpe, seq_nil] at hg31; cases hg31
    have hcl := careLines_ne hl0
    refine v85 rfl ?_
    iterate 2 refine wS (wanted_f 31 (by kernel_rfl) rfl) (v85 rfl ?_)
    refine wN rfl rfl rfl (v85 rfl ?_)
    refine we rfl ?_
    refine vc_false rfl ?_
    refine vc_skip (n_then (vs (vs (wr ?_))))
    refine wN rfl rfl rfl (v85 rfl ?_)
    first | refine wN rfl rfl rfl (v85 rfl ?_) | refine x_len rfl rfl ‹_› Tryz.underlying82 rfl (v85 rfl ?_)
    iterate 2 refine wN rfl rfl rfl (v85 rfl ?_)
    refine w_split 38 rfl (fun hg38 => ?_) (fun hg38 => ?_)
    ·
     refine v85 rfl ?_
     iterate 3 refine wS (wanted_f 38 (by kernel_rfl) rfl) (v85 rfl ?_)
     refine wN rfl rfl rfl (v85 rfl ?_)
     refine we rfl ?_
     refine vc_true rfl ?_
     refine vs (wr ?_)
     iterate 2 refine wN rfl rfl rfl (v85 rfl ?_)
     refine we rfl (vc_ret (r_then (r_block (r_then (r_then (r_block (r_then (r_fn rfl ?_))))))))
     have hrv : RV b l = none := by rw [← care_lines, hcl, hI.bad hp (parse_three (by have := hg38; simp [sRows_len] at this; omega))]; rfl
     exact rv_none hv hrv
    ·
     refine v85 rfl ?_
     refine wN (wanted_t 38 (by kernel_rfl) rfl) rfl rfl (v85 rfl ?_)
     refine wN (v := .int .i64 ((g.map encI).length : Nat)) (wanted_t 38 (by kernel_rfl) rfl) (pval_len Tryz.underlying26) rfl (v85 rfl ?_)
     refine wN (wanted_t 38 (by kernel_rfl) rfl) rfl rfl (v85 rfl ?_)
     refine wN rfl rfl rfl (v85 rfl ?_)
     refine we rfl ?_
     refine vc_cond rfl (fun hc42 => ?_) (fun hc42 => ?_)
     ·
      refine vs (wr ?_)
      iterate 2 refine wN rfl rfl rfl (v85 rfl ?_)
      refine we rfl (vc_ret (r_then (r_block (r_then (r_then (r_block (r_then (r_fn rfl ?_))))))))
      have hrv : RV b l = none := by rw [← care_lines, hcl]; exact hI.many hp (by have := hc42; simp at this; omega)
      exact rv_none hv hrv
     ·
      have hg200 : g.length ≠ 200 := by have := hc42; simp at this; omega
      obtain ⟨pa, nm, px, hw⟩ := three (l := splitL 32 p) (by have := hg38; simp [sRows_len] at this; omega)
      have hnml : nm.length ≤ p.length := split_small p nm (by rw [hw]; simp)
      have hpxl : px.length ≤ p.length := split_small p px (by rw [hw]; simp)
      obtain ⟨v, ok, hv1, hv2, hv3, hv4⟩ := unhex_tup (bs px)
      rw [bl_bs] at hv3 hv4
      rw [bs_size] at hv2
      have hunx := zUnhexed G (bs px) (by rw [bs_size]; omega)
      rw [hv1] at hunx
      have hp1 : parse1 b p = if (typeE b (bs nm)).2 = 0 then (unhexO px).map fun d => ⟨(typeE b (bs nm)).1, d⟩ else none := by rw [parse1, hw]
      refine vc_skip (n_then (vs (w_regionD (by kernel_rfl) ?_)))
      refine dN (v := .agg [_, _, _, _]) rfl rfl rfl (d85 rfl ?_)
      refine dN rfl rfl rfl (d85 rfl ?_)
      refine dN (v := .iptr (Tg.loose == .bor) [.str (bs nm)]) rfl (g_list (n := 1) el82 (by omega) (by rw [hw]; rfl) rfl) rfl (d85 rfl ?_)
      refine dN rfl rfl rfl (d85 rfl ?_)
      refine d_callI (env' := _) rfl rfl rfl (by kernel_rfl) rfl (by repeat' first | exact IsL.lend ‹_› | exact IsL.lend0 ‹_› | refine mapL_cons ?_ ?_ | refine lend_agg ?_ | rfl) (zType G b hb (bs nm)) rfl (d85 rfl ?_)
      iterate 5 refine dN rfl rfl rfl (d85 rfl ?_)
      refine d_end rfl (vs (wr ?_))
      refine wN rfl rfl rfl (v85 rfl ?_)
      refine wN (v := .iptr (Tg.loose == .bor) [.str (bs px)]) rfl (g_list (n := 2) el82 (by omega) (by rw [hw]; rfl) rfl) rfl (v85 rfl ?_)
      refine wN rfl rfl rfl (v85 rfl ?_)
      refine w_callI (env' := _) rfl rfl rfl (by kernel_rfl) rfl (by repeat' first | exact IsL.lend ‹_› | exact IsL.lend0 ‹_› | refine mapL_cons ?_ ?_ | refine lend_agg ?_ | rfl) (hunx) rfl (v85 rfl ?_)
      iterate 5 refine wN rfl rfl rfl (v85 rfl ?_)
      refine we rfl (vs (vs (wr ?_)))
      iterate 3 refine wN rfl rfl rfl (v85 rfl ?_)
      refine w_split 60 rfl (fun hg60 => ?_) (fun hg60 => ?_)
      ·
       refine v85 rfl ?_
       iterate 2 refine wS (wanted_f 60 (by kernel_rfl) rfl) (v85 rfl ?_)
       refine wN rfl rfl rfl (v85 rfl ?_)
       refine we rfl ?_
       refine vc_true rfl ?_
       refine vs (wr ?_)
       iterate 2 refine wN rfl rfl rfl (v85 rfl ?_)
       refine we rfl (vc_ret (r_then (r_block (r_then (r_then (r_block (r_then (r_fn rfl ?_))))))))
       have hrv : RV b l = none := by rw [← care_lines, hcl, hI.bad hp (by rw [hp1, if_neg (by simpa using hg60)])]; rfl
       exact rv_none hv hrv
      ·
       refine v85 rfl ?_
       iterate 2 refine wN (wanted_t 60 (by kernel_rfl) rfl) rfl rfl (v85 rfl ?_)
       refine wN rfl rfl rfl (v85 rfl ?_)
       refine we rfl ?_
       refine vc_cond rfl (fun hc63 => ?_) (fun hc63 => ?_)
       ·
        refine vs (wr ?_)
        iterate 2 refine wN rfl rfl rfl (v85 rfl ?_)
        refine we rfl (vc_ret (r_then (r_block (r_then (r_then (r_block (r_then (r_fn rfl ?_))))))))
        have hrv : RV b l = none := by rw [← care_lines, hcl, hI.bad hp (by rw [hp1, hv4 (by simpa using hc63)]; split <;> rfl)]; rfl
        exact rv_none hv hrv
       ·
        have hty : (typeE b (bs nm)).2 = 0 := by simpa using hg60
        have hokt : ok = true := by simpa using hc63
        have hpy : parse1 b p = some (⟨(typeE b (bs nm)).1, v⟩ : PI) := by rw [hp1, if_pos hty, hv3 hokt]; rfl
        have hgn : (g ++ [(⟨(typeE b (bs nm)).1, v⟩ : PI)]).map encI = (g.map encI) ++ [[.int .i64 (typeE b (bs nm)).1, .str v]] := by simp [encI]
        refine vc_skip (n_then (wr ?_))
        iterate 3 refine wN rfl rfl rfl (v85 rfl ?_)
        refine wN (v := .agg [_, _]) rfl rfl rfl (v85 rfl ?_)
        refine wN rfl rfl rfl (v85 rfl ?_)
        refine w_opH (v := .row false 2 0 (g.length + 1)) (env' := _) (H2 := [VO.arr 25 4 [[.str b.name, .int .i64 b.kind, b.tx, b.sx]], .dead, .arr 64 2 ((g.map encI) ++ [[.int .i64 (typeE b (bs nm)).1, .str v]])]) rfl ((acc_append (H := [VO.arr 25 4 [[.str b.name, .int .i64 b.kind, b.tx, b.sx]], pobj 64 2 (g.map encI)]) (pgs := (g.map encI)) (news := [[.int .i64 (typeE b (bs nm)).1, .str v]]) (x := .list .tight [[.int .i64 (typeE b (bs nm)).1, .str v]]) (L := 1) (sz := 2) rfl el26 Tryz.underlying26 rfl zc64 by64 rfl rfl (by decide) (by decide) rfl rfl (by simp) rfl (by rw [hgl]; simp; omega)).trans (by rw [hgl]; rfl)) rfl (rfl) (fun _ h => h) (v85 rfl ?_)
        refine wN rfl rfl rfl (v85 rfl ?_)
        refine w_endB rfl (n_then (wr ?_))
        iterate 2 refine wN rfl rfl rfl (v85 rfl ?_)
        refine we rfl ?_
        refine hY0 ⟨(i + 1, g ++ [(⟨(typeE b (bs nm)).1, v⟩ : PI)]), hI.next hp hpy (by show v.size ≤ 1000000; omega), fun e => absurd e hl0⟩ (by simp only; omega) _ _ [0, 2] ?_ (by decide) (fun _ h => absurd h (by omega)) ⟨.inr ⟨_, rfl, ren_arr (base_renO hL hLs)⟩, .inr ⟨_, rfl, by show renO _ (pobj 64 2 ((g ++ [(⟨(typeE b (bs nm)).1, v⟩ : PI)]).map encI)) = _; rw [hgn]; exact pobj_snoc (by rw [← hgn]; exact items_val)⟩, trivial⟩
        repeat' first | exact trivial | refine ⟨.inl rfl, ?_⟩ | refine ⟨.inr rfl, ?_⟩ | refine ⟨.inr (IsL.ren1 ‹_›), ?_⟩ | refine ⟨(.inr (base_ren hL hLs)), ?_⟩ | refine ⟨(.inr (by show Vi.ren1 _ (pval 1 ((g ++ [(⟨(typeE b (bs nm)).1, v⟩ : PI)]).map encI)) = _; rw [hgn]; exact (pval_snoc rfl).trans (by rw [hgl]))), ?_⟩ | refine ⟨(.inr ?_), ?_⟩ | fail
        all_goals first | exact congrArg some (int_succ (by omega)).symm
  ·
   have hge : (splitL 10 (trimL 10 l)).length ≤ i := by have := of_decide_eq_false hc24; rw [sRows_len] at this; omega
   have hl0 : l ≠ [] := fun e => by have := (hIz e).1; omega
   have hdn : parseAll b (careLines l) = some g := by rw [careLines_ne hl0]; exact hI.done hge
   refine vc_exit (x_then (x_then (x_same (n_then (vs (vs (wr ?_)))))))
   refine wN (v := .agg [_, _, _, _]) rfl rfl rfl (v85 rfl ?_)
   refine wN rfl rfl rfl (v85 rfl ?_)
   refine w_callI (env' := _) rfl rfl rfl (by kernel_rfl) rfl (mapL_cons (lend_agg (mapL_cons rfl (mapL_cons rfl (mapL_cons hL.lend0 (mapL_cons hLs.lend0 rfl))))) (mapL_cons (lend_pv (e := 64) (sz := 2) rfl items_val) rfl)) (zUnload G b hb (plend (g.map encI)) g (items_lend hI.short (by omega))) rfl (v85 rfl ?_)
   iterate 5 refine wN rfl rfl rfl (v85 rfl ?_)
   refine we rfl (vs (wr ?_))
   iterate 3 refine wN rfl rfl rfl (v85 rfl ?_)
   refine w_split 79 rfl (fun hg79 => ?_) (fun hg79 => ?_)
   ·
    refine v85 rfl ?_
    iterate 3 refine wS (wanted_f 79 (by kernel_rfl) rfl) (v85 rfl ?_)
    refine wN rfl rfl rfl (v85 rfl ?_)
    refine we rfl ?_
    refine vc_true rfl ?_
    refine vs (wr ?_)
    iterate 2 refine wN rfl rfl rfl (v85 rfl ?_)
    refine we rfl (vc_ret (r_then (r_fn rfl ?_)))
    have hrv : RV b l = none := by rw [← care_lines, hdn, fits2, if_neg (fun h => by rw [h.1] at hg79; simp at hg79)]
    exact rv_none hv hrv
   ·
    refine v85 rfl ?_
    iterate 3 refine wN (wanted_t 79 (by kernel_rfl) rfl) rfl rfl (v85 rfl ?_)
    refine wN rfl rfl rfl (v85 rfl ?_)
    refine we rfl ?_
    refine vc_cond rfl (fun hc83 => ?_) (fun hc83 => ?_)
    ·
     refine vs (wr ?_)
     iterate 2 refine wN rfl rfl rfl (v85 rfl ?_)
     refine we rfl (vc_ret (r_then (r_fn rfl ?_)))
     have hrv : RV b l = none := by rw [← care_lines, hdn, fits2, if_neg (fun h => by rw [h.1] at hc83; simp only [if_true, h.2, seq_self, Bool.not_true] at hc83; cases hc83)]
     exact rv_none hv hrv
    ·
     refine vc_skip (n_then (vs (wr ?_)))
     iterate 3 refine wN rfl rfl rfl (v85 rfl ?_)
     refine we rfl (vc_ret (r_fn rfl ?_))
     have hf0 : forestE b g = 0 := by simpa using hg79
     have hul : unloadL b g = l := by rw [if_pos hf0] at hc83; simp only [Bool.not_eq_false'] at hc83; have := congrArg bl (seq_eq.1 hc83); rw [bl_bs, bl_bs] at this; exact this
     have hrv : RV b l = some g := by rw [← care_lines, hdn, fits2, if_pos ⟨hf0, hul⟩]
     rw [← rv_some hv hrv]
     exact ret_tup2 (ret_pval (L := 1) (e := 64) (sz := 2) items_val rfl) rfl
set_option maxHeartbeats 8000000 in
theorem zRReload (G : Glob) (b : PB) (hb : BaseV b) (l : List UInt8) (hlen : l.length ≤ 1000000) : Vi.Fn Tryz.prog G 14 [.agg (encB b), .str (bs l)] (reloadV b l) := by
 have hL := hb.types.isL
 have hLs := hb.search.isL
 have htv := hb.txv
 have hsv := hb.sxv
 have hxl : (lrows b.tx).length = b.types.length := by rw [hb.types.rows]; simp
 have hpl : ∀ p ∈ splitL 10 l, p.length ≤ 1000000 := fun p hp => by have := split_small l p hp; omega
 have hsl : (splitL 10 l).length ≤ 1000001 := by have := split_count 10 l; omega
 have h1 : 1 ≤ (splitL 10 l).length := by have := split_ne 10 l; cases h : splitL 10 l; exact absurd h this; simp
 have hdl : (splitL 10 l).dropLast.length = (splitL 10 l).length - 1 := List.length_dropLast
 have hval := zRefValid G b hb.toBaseIs
 rw [← valid_eq] at hval
 refine fn_body (fun _ => .iso) Tryz.func14 rfl ?_
 refine vc_norm (env' := (_ :: _ :: _ :: _ :: _ :: _ :: _ :: _ :: _ :: _ :: _ :: _ :: _ :: _ :: _ :: _ :: _ :: _ :: _ :: _ :: _ :: _ :: _ :: _ :: _ :: _ :: _ :: _ :: _ :: _ :: _ :: _ :: _ :: _ :: _ :: _ :: _ :: _ :: _ :: _ :: _ :: _ :: _ :: _ :: _ :: _ :: _ :: _ :: _ :: _ :: _ :: _ :: _ :: _ :: _ :: _ :: _ :: _ :: _ :: _ :: _ :: _ :: _ :: _ :: _ :: _ :: _ :: _ :: _ :: _ :: _ :: _ :: _ :: _ :: _ :: _ :: _ :: [])) (H' := []) rfl rfl ?_
 refine vs (wr ?_)
 refine w_opH (v := .ptr 0 0 0) (env' := _) (H2 := [.arr 25 4 [[_, _, _, _]]]) rfl rfl rfl rfl (fun _ h => h) (v77 rfl ?_)
 iterate 2 refine wN rfl rfl rfl (v77 rfl ?_)
 refine we rfl (vs (vs (wr ?_)))
 refine wN (v := .agg [_, _, _, _]) rfl rfl rfl (v77 rfl ?_)
 refine w_callI (env' := _) rfl rfl rfl (by kernel_rfl) rfl (by repeat' first | exact IsL.lend ‹_› | exact IsL.lend0 ‹_› | refine mapL_cons ?_ ?_ | refine lend_agg ?_ | rfl) (hval) rfl (v77 rfl ?_)
 refine wN rfl rfl rfl (v77 rfl ?_)
 refine we rfl ?_
 refine vc_cond rfl (fun hc18 => ?_) (fun hc18 => ?_)
 ·
  have hv : ¬ baseOk b = true := by simpa using hc18
  refine vs (wr ?_)
  iterate 2 refine wN rfl rfl rfl (v77 rfl ?_)
  refine we rfl (vc_ret (r_then (r_fn rfl ?_)))
  show some (AV.tup [.nils, .int .i64 100]) = some (reloadV b l)
  rw [reloadV, if_neg hv]
 ·
  have hv : baseOk b = true := by simpa using hc18
  refine vc_skip (n_then (vs (wr ?_)))
  refine wN rfl rfl rfl (v77 rfl ?_)
  refine we rfl (vs (wr ?_))
  refine wN rfl rfl rfl (v77 rfl ?_)
  refine w_callI (env' := _) rfl rfl rfl (by kernel_rfl) rfl (by repeat' first | exact IsL.lend ‹_› | exact IsL.lend0 ‹_› | refine mapL_cons ?_ ?_ | refine lend_agg ?_ | rfl) (zCut G l 10 hlen) rfl (v77 rfl ?_)
  refine wN rfl rfl rfl (v77 rfl ?_)
  refine we rfl (vs (vs (wr ?_)))
  refine wN rfl rfl rfl (v77 rfl ?_)
  refine we rfl (vc_block ?_)
  refine vc_loopN (α := { a : Nat × List PI // PInv b (splitL 10 l).dropLast a.1 a.2 }) (fun a => (rnone 4 ++ ([some .undef, some .undef, some (pval 1 (a.1.2.map encI)), none, some (.int .i64 (a.1.1 : Nat))] ++ (rundef 5 ++ (rnone 7 ++ (rundef 42 ++ (rnone 14))))))) (fun a => [VO.arr 25 4 [[.str b.name, .int .i64 b.kind, b.tx, b.sx]], pobj 64 2 (a.1.2.map encI)]) (fun a => (splitL 10 l).length - 1 - a.1.1) ⟨(0, []), pinv0 b _⟩ [0, 1] (by repeat' first | exact trivial | refine ⟨.inl rfl, ?_⟩ | refine ⟨.inr rfl, ?_⟩ | refine ⟨.inr (IsL.ren1 ‹_›), ?_⟩ | refine ⟨(.inr (base_ren hL hLs)), ?_⟩ | fail) (by decide) (fun _ h => absurd h (by omega)) ⟨.inr ⟨_, rfl, ren_arr (base_renO hL hLs)⟩, .inl rfl, trivial⟩ (fun a => ⟨Nat.zero_le _, (by repeat' first | exact trivial | exact .inr ⟨_, rfl, rfl⟩ | exact IsL.valN ‹_› | exact (base_N hL hLs) | exact (pval_N rfl) | refine ⟨?_, ?_⟩ | fail), ⟨(fun r hr x hx => by simp at hr; subst hr; simp at hx; rcases hx with rfl | rfl | rfl | rfl <;> first | trivial | exact IsL.leafN (by assumption)), pobj_N items_val, trivial⟩⟩) ?_
  rintro ⟨⟨i, g⟩, hI⟩ Y0 hY0
  refine vc_norm (env' := (_ :: _ :: _ :: _ :: _ :: _ :: (pval 1 (g.map encI)) :: _ :: (.int .i64 (i : Int)) :: _ :: _ :: _ :: _ :: _ :: _ :: _ :: _ :: _ :: _ :: _ :: _ :: _ :: _ :: _ :: _ :: _ :: _ :: _ :: _ :: _ :: _ :: _ :: _ :: _ :: _ :: _ :: _ :: _ :: _ :: _ :: _ :: _ :: _ :: _ :: _ :: _ :: _ :: _ :: _ :: _ :: _ :: _ :: _ :: _ :: _ :: _ :: _ :: _ :: _ :: _ :: _ :: _ :: _ :: _ :: _ :: _ :: _ :: _ :: _ :: _ :: _ :: _ :: _ :: _ :: _ :: _ :: _ :: [])) (H' := [VO.arr 25 4 [[.str b.name, .int .i64 b.kind, b.tx, b.sx]], pobj 64 2 (g.map encI)]) rfl rfl ?_
  replace hI : PInv b (splitL 10 l).dropLast i g := hI
  have hIl := hI.le
  have hIg := hI.len
  have hgl : (g.map encI).length = g.length := by simp
  refine vs (vs (wr ?_))
  iterate 2 refine wN rfl rfl rfl (v77 rfl ?_)
  first | refine wN rfl rfl rfl (v77 rfl ?_) | refine x_len rfl rfl ‹_› Tryz.underlying82 rfl (v77 rfl ?_)
  refine wN (v := .int .i64 (((splitL 10 l).length - 1 : Nat) : Int)) rfl (int_eq (by rw [sRows_len, i64_small (by omega) (by omega)]; omega)) rfl (v77 rfl ?_)
  refine wN rfl rfl rfl (v77 rfl ?_)
  refine we rfl ?_
  refine vc_cond rfl (fun hc25 => ?_) (fun hc25 => ?_)
  ·
   have hlt : i < (splitL 10 l).length - 1 := by have := of_decide_eq_true hc25; omega
   obtain ⟨p, hp⟩ : ∃ p, (splitL 10 l).dropLast[i]? = some p := ⟨_, List.getElem?_eq_getElem (by omega)⟩
   have hpp : (splitL 10 l)[i]? = some p := by rw [List.dropLast_eq_take, List.getElem?_take_of_lt hlt] at hp; exact hp
   have hp6 := hpl p (List.mem_of_getElem? hpp)
   have hrow : (sRows (splitL 10 l))[((i : Nat) : Int).toNat]? = some [.str (bs p)] := by rw [Int.toNat_natCast, sRows, List.getElem?_map, hpp]; rfl
   refine vc_skip (n_then (vs (vc_block (vs (wr ?_)))))
   iterate 2 refine wN rfl rfl rfl (v77 rfl ?_)
   refine wN (v := .iptr (Tg.loose == .bor) [.str (bs p)]) rfl (g_list el82 (by omega) hrow rfl) rfl (v77 rfl ?_)
   refine wN rfl rfl rfl (v77 rfl ?_)
   refine w_callI (env' := _) rfl rfl rfl (by kernel_rfl) rfl (by repeat' first | exact IsL.lend ‹_› | exact IsL.lend0 ‹_› | refine mapL_cons ?_ ?_ | refine lend_agg ?_ | rfl) (zCut G p 32 hp6) rfl (v77 rfl ?_)
   refine wN rfl rfl rfl (v77 rfl ?_)
   refine we rfl (vs (vs (wr ?_)))
   refine wN rfl rfl rfl (v77 rfl ?_)
   first | refine wN rfl rfl rfl (v77 rfl ?_) | refine x_len rfl rfl ‹_› Tryz.underlying82 rfl (v77 rfl ?_)
   refine wN rfl rfl rfl (v77 rfl ?_)
   refine we rfl ?_
   refine vc_cond rfl (fun hc35 => ?_) (fun hc35 => ?_)
   ·
    refine vs (wr ?_)
    iterate 2 refine wN rfl rfl rfl (v77 rfl ?_)
    refine we rfl (vc_ret (r_then (r_block (r_then (r_then (r_block (r_then (r_fn rfl ?_))))))))
    have hrv : RV b l = none := by rw [RV, hI.bad hp (parse_three (by have := hc35; simp [sRows_len] at this; omega))]; rfl
    exact rv_none hv hrv
   ·
    obtain ⟨pa, nm, px, hw⟩ := three (l := splitL 32 p) (by have := hc35; simp [sRows_len] at this; omega)
    have hnml : nm.length ≤ p.length := split_small p nm (by rw [hw]; simp)
    have hpxl : px.length ≤ p.length := split_small p px (by rw [hw]; simp)
    obtain ⟨v, ok, hv1, hv2, hv3, hv4⟩ := from_tup (bs px)
    rw [bl_bs] at hv3 hv4
    rw [bs_size] at hv2
    have hunx := zFromHex G (bs px) (by rw [bs_size]; omega)
    rw [hv1] at hunx
    have hp1 : parse1 b p = if (typeE b (bs nm)).2 = 0 then (unhexO px).map fun d => ⟨(typeE b (bs nm)).1, d⟩ else none := by rw [parse1, hw]
    refine vc_skip (n_then (vs (w_regionD (by kernel_rfl) ?_)))
    refine dN (v := .agg [_, _, _, _]) rfl rfl rfl (d77 rfl ?_)
    refine dN rfl rfl rfl (d77 rfl ?_)
    refine dN (v := .iptr (Tg.loose == .bor) [.str (bs nm)]) rfl (g_list (n := 1) el82 (by omega) (by rw [hw]; rfl) rfl) rfl (d77 rfl ?_)
    refine dN rfl rfl rfl (d77 rfl ?_)
    refine d_callI (env' := _) rfl rfl rfl (by kernel_rfl) rfl (by repeat' first | exact IsL.lend ‹_› | exact IsL.lend0 ‹_› | refine mapL_cons ?_ ?_ | refine lend_agg ?_ | rfl) (zTypeR G b hb (bs nm)) rfl (d77 rfl ?_)
    iterate 5 refine dN rfl rfl rfl (d77 rfl ?_)
    refine d_end rfl (vs (wr ?_))
    refine wN rfl rfl rfl (v77 rfl ?_)
    refine wN (v := .iptr (Tg.loose == .bor) [.str (bs px)]) rfl (g_list (n := 2) el82 (by omega) (by rw [hw]; rfl) rfl) rfl (v77 rfl ?_)
    refine wN rfl rfl rfl (v77 rfl ?_)
    refine w_callI (env' := _) rfl rfl rfl (by kernel_rfl) rfl (by repeat' first | exact IsL.lend ‹_› | exact IsL.lend0 ‹_› | refine mapL_cons ?_ ?_ | refine lend_agg ?_ | rfl) (hunx) rfl (v77 rfl ?_)
    iterate 5 refine wN rfl rfl rfl (v77 rfl ?_)
    refine we rfl (vs (vs (wr ?_)))
    iterate 3 refine wN rfl rfl rfl (v77 rfl ?_)
    refine w_split 53 rfl (fun hg53 => ?_) (fun hg53 => ?_)
    ·
     refine v77 rfl ?_
     iterate 2 refine wS (wanted_f 53 (by kernel_rfl) rfl) (v77 rfl ?_)
     refine wN rfl rfl rfl (v77 rfl ?_)
     refine we rfl ?_
     refine vc_true rfl ?_
     refine vs (wr ?_)
     iterate 2 refine wN rfl rfl rfl (v77 rfl ?_)
     refine we rfl (vc_ret (r_then (r_block (r_then (r_then (r_block (r_then (r_fn rfl ?_))))))))
     have hrv : RV b l = none := by rw [RV, hI.bad hp (by rw [hp1, if_neg (by simpa using hg53)])]; rfl
     exact rv_none hv hrv
    ·
     refine v77 rfl ?_
     iterate 2 refine wN (wanted_t 53 (by kernel_rfl) rfl) rfl rfl (v77 rfl ?_)
     refine wN rfl rfl rfl (v77 rfl ?_)
     refine we rfl ?_
     refine vc_cond rfl (fun hc56 => ?_) (fun hc56 => ?_)
     ·
      refine vs (wr ?_)
      iterate 2 refine wN rfl rfl rfl (v77 rfl ?_)
      refine we rfl (vc_ret (r_then (r_block (r_then (r_then (r_block (r_then (r_fn rfl ?_))))))))
      have hrv : RV b l = none := by rw [RV, hI.bad hp (by rw [hp1, hv4 (by simpa using hc56)]; split <;> rfl)]; rfl
      exact rv_none hv hrv
     ·
      have hty : (typeE b (bs nm)).2 = 0 := by simpa using hg53
      have hokt : ok = true := by simpa using hc56
      have hpy : parse1 b p = some (⟨(typeE b (bs nm)).1, v⟩ : PI) := by rw [hp1, if_pos hty, hv3 hokt]; rfl
      have hgn : (g ++ [(⟨(typeE b (bs nm)).1, v⟩ : PI)]).map encI = (g.map encI) ++ [[.int .i64 (typeE b (bs nm)).1, .str v]] := by simp [encI]
      refine vc_skip (n_then (wr ?_))
      iterate 3 refine wN rfl rfl rfl (v77 rfl ?_)
      refine wN (v := .agg [_, _]) rfl rfl rfl (v77 rfl ?_)
      refine wN rfl rfl rfl (v77 rfl ?_)
      refine w_opH (v := .row false 2 0 (g.length + 1)) (env' := _) (H2 := [VO.arr 25 4 [[.str b.name, .int .i64 b.kind, b.tx, b.sx]], .dead, .arr 64 2 ((g.map encI) ++ [[.int .i64 (typeE b (bs nm)).1, .str v]])]) rfl ((acc_append (H := [VO.arr 25 4 [[.str b.name, .int .i64 b.kind, b.tx, b.sx]], pobj 64 2 (g.map encI)]) (pgs := (g.map encI)) (news := [[.int .i64 (typeE b (bs nm)).1, .str v]]) (x := .list .tight [[.int .i64 (typeE b (bs nm)).1, .str v]]) (L := 1) (sz := 2) rfl el26 Tryz.underlying26 rfl zc64 by64 rfl rfl (by decide) (by decide) rfl rfl (by simp) rfl (by rw [hgl]; simp; omega)).trans (by rw [hgl]; rfl)) rfl (rfl) (fun _ h => h) (v77 rfl ?_)
      refine wN rfl rfl rfl (v77 rfl ?_)
      refine w_endB rfl (n_then (wr ?_))
      iterate 3 refine wN rfl rfl rfl (v77 rfl ?_)
      refine we rfl ?_
      refine hY0 ⟨(i + 1, g ++ [(⟨(typeE b (bs nm)).1, v⟩ : PI)]), hI.next hp hpy (by show v.size ≤ 1000000; omega)⟩ (by simp only; omega) _ _ [0, 2] ?_ (by decide) (fun _ h => absurd h (by omega)) ⟨.inr ⟨_, rfl, ren_arr (base_renO hL hLs)⟩, .inr ⟨_, rfl, by show renO _ (pobj 64 2 ((g ++ [(⟨(typeE b (bs nm)).1, v⟩ : PI)]).map encI)) = _; rw [hgn]; exact pobj_snoc (by rw [← hgn]; exact items_val)⟩, trivial⟩
      repeat' first | exact trivial | refine ⟨.inl rfl, ?_⟩ | refine ⟨.inr rfl, ?_⟩ | refine ⟨.inr (IsL.ren1 ‹_›), ?_⟩ | refine ⟨(.inr (base_ren hL hLs)), ?_⟩ | refine ⟨(.inr (by show Vi.ren1 _ (pval 1 ((g ++ [(⟨(typeE b (bs nm)).1, v⟩ : PI)]).map encI)) = _; rw [hgn]; exact (pval_snoc rfl).trans (by rw [hgl]))), ?_⟩ | refine ⟨(.inr ?_), ?_⟩ | fail
      all_goals first | exact congrArg some (int_succ (by omega)).symm
  ·
   have hge : (splitL 10 l).length - 1 ≤ i := by have := of_decide_eq_false hc25; omega
   have hdn : parseAll b (splitL 10 l).dropLast = some g := hI.done (by omega)
   refine vc_exit (x_then (x_then (x_same (n_then (vs (vs (wr ?_)))))))
   refine wN (v := .agg [_, _, _, _]) rfl rfl rfl (v77 rfl ?_)
   refine wN rfl rfl rfl (v77 rfl ?_)
   refine w_callI (env' := _) rfl rfl rfl (by kernel_rfl) rfl (mapL_cons (lend_agg (mapL_cons rfl (mapL_cons rfl (mapL_cons hL.lend0 (mapL_cons hLs.lend0 rfl))))) (mapL_cons (lend_pv (e := 64) (sz := 2) rfl items_val) rfl)) (zRUnload G b hb (plend (g.map encI)) g (items_lend hI.short (by omega))) rfl (v77 rfl ?_)
   iterate 5 refine wN rfl rfl rfl (v77 rfl ?_)
   refine we rfl (vs (wr ?_))
   iterate 3 refine wN rfl rfl rfl (v77 rfl ?_)
   refine w_split 71 rfl (fun hg71 => ?_) (fun hg71 => ?_)
   ·
    refine v77 rfl ?_
    iterate 3 refine wN (wanted_t 71 (by kernel_rfl) rfl) rfl rfl (v77 rfl ?_)
    refine wN rfl rfl rfl (v77 rfl ?_)
    refine we rfl ?_
    refine vc_cond rfl (fun hc75 => ?_) (fun hc75 => ?_)
    ·
     refine vs (wr ?_)
     iterate 3 refine wN rfl rfl rfl (v77 rfl ?_)
     refine we rfl (vc_ret (r_then (r_fn rfl ?_)))
     have hf0 : forestE b g = 0 := by simpa using hg71
     have hul : unloadL b g = l := by rw [if_pos hf0] at hc75; have := congrArg bl (seq_eq.1 hc75); rw [bl_bs, bl_bs] at this; exact this
     have hrv : RV b l = some g := by rw [RV, hdn, fits2, if_pos ⟨hf0, hul⟩]
     rw [← rv_some hv hrv]
     exact ret_tup2 (ret_pval (L := 1) (e := 64) (sz := 2) items_val rfl) rfl
    ·
     refine vc_skip (n_then (vs (wr ?_)))
     iterate 2 refine wN rfl rfl rfl (v77 rfl ?_)
     refine we rfl (vc_ret (r_fn rfl ?_))
     have hrv : RV b l = none := by rw [RV, hdn, fits2, if_neg (fun h => by rw [h.1] at hc75; simp only [if_true, h.2, seq_self] at hc75; cases hc75)]
     exact rv_none hv hrv
   ·
    refine v77 rfl ?_
    iterate 3 refine wS (wanted_f 71 (by kernel_rfl) rfl) (v77 rfl ?_)
    refine wN rfl rfl rfl (v77 rfl ?_)
    refine we rfl ?_
    refine vc_false rfl ?_
    refine vc_skip (n_then (vs (wr ?_)))
    iterate 2 refine wN rfl rfl rfl (v77 rfl ?_)
    refine we rfl (vc_ret (r_fn rfl ?_))
    have hrv : RV b l = none := by rw [RV, hdn, fits2, if_neg (fun h => by rw [h.1] at hg71; simp at hg71)]
    exact rv_none hv hrv
end Go.Vi
