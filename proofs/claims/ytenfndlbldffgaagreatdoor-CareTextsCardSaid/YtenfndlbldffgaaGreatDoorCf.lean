/- Part of the proof of the tied card of CareTexts: texts cut, hexadecimal texts, numbers as texts. Conditions: none of its own. -/
import Derived.Test.YtenfndlbldffgaaGreatDoorCb
import Derived.Test.YtenfndlbldffgaaGreatDoorCc
import Derived.Test.YtenfndlbldffgaaGreatDoorCe
set_option autoImplicit false
set_option linter.unusedVariables false
set_option linter.unusedSimpArgs false
set_option maxRecDepth 100000
namespace Go.Vi
open Go Go.Vi Go.Proofs
attribute [local irreducible] vops vopsD vc
theorem w_ext {P : Program} {md : Oper → Md} {G : Glob} {ops : Array Oper} {r : List Oper} {env : List AV} {H : Hp} {K : List AV → Hp → Prop} {d : Tmp} {ty : TypeId} {pos : String} {aft : Array Edge} {f : Operand} {args : Array Operand} {ts : Array TypeId} {gd : Option (Nat × Bool)} {g : Nat} {cs xs : List AV} {v : AV} {env' : List AV} (hg : wantedV gd ops env = some true) (hf : ev G env f = some (.clo g cs)) (hx : evL (ev G env) args.toList = some xs) (he : enterOk P g = false)
 (hv : vext P g (xs ++ cs) = some v) (hE : env.set d v = env') (h : vops P G md ops r env' H K) : vops P G md ops (⟨some d, .call ⟨.value f, args, ts⟩, ty, pos, aft, gd⟩ :: r) env H K := by
 subst hE
 unfold vops
 simp only [hg, vop, hf, hx, he, Bool.false_eq_true, if_false]
 exact ⟨v, hv, h⟩
theorem byte_back (c : UInt8) : ((c.toNat : Nat) : Int).toNat.toUInt8 = c := by simp
theorem ext_index {P : Program} {g : Nat} (h1 : isExt P g "internal/bytealg.CountString" = false) (h2 : isExt P g "internal/bytealg.IndexByteString" = true) (s : ByteArray) (c : UInt8) : vext P g [.str s, .int .u8 (c.toNat : Nat)] = some (.int .i64 (Lib.indexByte (bl s) c)) := by
 simp only [vext, h1, h2, byte_back, Bool.false_eq_true, if_false, if_true]
 rfl
theorem ext_count {P : Program} {g : Nat} (h1 : isExt P g "internal/bytealg.CountString" = true) (s : ByteArray) (c : UInt8) : vext P g [.str s, .int .u8 (c.toNat : Nat)] = some (.int .i64 ((bl s).count c : Nat)) := by
 simp only [vext, h1, byte_back, if_true]
 rfl
theorem el68 : elemAt Tryz.prog 68 = some (none, 5, 1) := by kernel_rfl
theorem zc5 : zcOf Tryz.prog 5 = some [.int .u8 0] := by kernel_rfl
theorem by5 : byOf Tryz.prog 5 = some 1 := by kernel_rfl
theorem u8_eq {H : Hp} {a b : Int} (h : a = b) : some (AV.int .u8 a, H) = some (AV.int .u8 b, H) := by rw [h]
theorem u8_small {n : Int} (h1 : 0 ≤ n) (h2 : n < 256) : IntKind.u8.wrap n = n := by
 have h : IntKind.u8.wrap n = n % 256 := rfl
 rw [h]; omega
theorem pval_app {σ : List Nat} {L l' : Nat} {pgs news : List (List AV)} (hne : news ≠ []) (h : σ[L]? = some l') : Vi.ren1 σ (pval L (pgs ++ news)) = some (.row false l' 0 (pgs.length + news.length)) := by
 have e : ¬ pgs ++ news = [] := by simp [hne]
 rw [pval, if_neg e]
 simp [Vi.ren1, Vi.ren0, h]
theorem pobj_app {σ : List Nat} {e : TypeId} {sz : Nat} {pgs news : List (List AV)} (hne : news ≠ []) (h : allVal (pgs ++ news) = true) : renO σ (pobj e sz (pgs ++ news)) = some (.arr e sz (pgs ++ news)) := by
 have e : ¬ pgs ++ news = [] := by simp [hne]
 rw [pobj, if_neg e]
 exact ren_arr (ren_rows h)
theorem conv_bytes {H : Hp} {L : Nat} {l : List UInt8} (h : H[L]? = some (pobj 5 1 (bRows l))) : (orX (vconv Tryz.prog H 68 9 (pval L (bRows l))) (vconvX Tryz.prog H 68 9 (pval L (bRows l)))).map (·, H) = some (.str (bs l), H) := by
 have hr : rowsOf H (pval L (bRows l)) = some (bRows l) := by
  by_cases e : bRows l = []
  · rw [pval, if_pos e, e]; rfl
  · rw [pobj, if_neg e] at h
    rw [pval, if_neg e]
    simp only [rowsOf, h]
    rw [if_pos (by omega)]
    simp
 have hx : ∀ x : AV, rowsOf H x = some (bRows l) → vconv Tryz.prog H 68 9 x = some (.str (bs l)) := by
  intro x hx
  simp only [vconv, Tryz.underlying68, Tryz.underlying9, Tryz.underlying5, hx, nums_bytes, Option.map_some, str_nums]
 rw [hx _ hr]
 rfl
theorem conv_bytesE {H : Hp} {L : Nat} {l : List UInt8} {z : ByteArray} (h : H[L]? = some (pobj 5 1 (bRows l))) (he : bs l = z) : (orX (vconv Tryz.prog H 68 9 (pval L (bRows l))) (vconvX Tryz.prog H 68 9 (pval L (bRows l)))).map (·, H) = some (.str z, H) := by
 rw [conv_bytes h, he]
theorem s_add {P : Program} {H : Hp} {t : TypeId} {a c : List UInt8} (h : a.length + c.length < 9223372036854775808) : (orX (vbin P .add t (.str (bs a)) (.str (bs c))) (vbinX P .add t (.str (bs a)) (.str (bs c)))).map (·, H) = some (.str (bs (a ++ c)), H) := by
 have hv : vbin P .add t (.str (bs a)) (.str (bs c)) = some (.str (bs (a ++ c))) := by
  simp only [vbin, vstr]
  rw [if_neg, app_bs]
  rw [bs_size, bs_size, show IntKind.i64.max = 9223372036854775807 from rfl]
  omega
 rw [hv]
 rfl
theorem hexDig_get {n : Nat} (h : n < 16) : (⟨#[48, 49, 50, 51, 52, 53, 54, 55, 56, 57, 97, 98, 99, 100, 101, 102]⟩ : ByteArray)[((n : Nat) : Int).toNat]? = some (hd n) := by
 rw [Int.toNat_natCast, get_bl]
 have : ∀ m : Fin 16, (bl ⟨#[48, 49, 50, 51, 52, 53, 54, 55, 56, 57, 97, 98, 99, 100, 101, 102]⟩)[m.1]? = some (hd m.1) := by decide
 exact this ⟨n, h⟩
theorem hexDig_cut {n : Nat} (h : n < 16) : (⟨#[48, 49, 50, 51, 52, 53, 54, 55, 56, 57, 97, 98, 99, 100, 101, 102]⟩ : ByteArray).extract n (n + 1) = bs [hd n] := by
 refine bl_inj ?_
 rw [bl_extract, bl_bs]
 have : ∀ m : Fin 16, ((bl ⟨#[48, 49, 50, 51, 52, 53, 54, 55, 56, 57, 97, 98, 99, 100, 101, 102]⟩).drop m.1).take (m.1 + 1 - m.1) = [hd m.1] := by decide
 exact this ⟨n, h⟩
theorem hexDig_sl {H : Hp} {n : Nat} (h : n < 16) : (vslice Tryz.prog H 9 (.str ⟨#[48, 49, 50, 51, 52, 53, 54, 55, 56, 57, 97, 98, 99, 100, 101, 102]⟩) (some (.int .u8 (n : Nat))) (some (.int .u8 ((n + 1 : Nat) : Int))) none).map (·, H) = some (.str (bs [hd n]), H) := by
 have hb : vbounds (⟨#[48, 49, 50, 51, 52, 53, 54, 55, 56, 57, 97, 98, 99, 100, 101, 102]⟩ : ByteArray).size (some (.int .u8 (n : Nat))) (some (.int .u8 ((n + 1 : Nat) : Int))) none = some (n, n + 1, none) := by
  have hs : (⟨#[48, 49, 50, 51, 52, 53, 54, 55, 56, 57, 97, 98, 99, 100, 101, 102]⟩ : ByteArray).size = 16 := rfl
  rw [hs]
  have e1 : n + 1 ≤ 16 := by omega
  have e2 : (0 : Int) ≤ (n : Int) + 1 := by omega
  have e3 : ((n : Int) + 1).toNat = n + 1 := by omega
  simp [vbounds, bnd, e1, e2, e3]
 simp only [vslice, Tryz.underlying9, hb, Option.map_some, hexDig_cut h]
theorem index_dv (c : UInt8) : Lib.indexByte (bl ⟨#[48, 49, 50, 51, 52, 53, 54, 55, 56, 57, 97, 98, 99, 100, 101, 102]⟩) c = dv c := by
 have : ∀ m : Fin 256, Lib.indexByte (bl ⟨#[48, 49, 50, 51, 52, 53, 54, 55, 56, 57, 97, 98, 99, 100, 101, 102]⟩) (UInt8.ofNat m.1) = dv (UInt8.ofNat m.1) := by decide +kernel
 have h := this ⟨c.toNat, c.toNat_lt⟩
 simpa using h
theorem shr4 (c : UInt8) : ((c.toNat : Nat) : Int).fdiv (2 ^ (min (Int.toNat 4) IntKind.u8.bits)) = ((c.toNat / 16 : Nat) : Int) := by
 have e : (2 : Int) ^ (min (Int.toNat 4) IntKind.u8.bits) = 16 := rfl
 rw [e, Int.fdiv_eq_ediv_of_nonneg _ (by omega)]
 omega
theorem and15 (c : UInt8) : IntKind.u8.wrap ((BitVec.ofInt IntKind.u8.bits ((c.toNat : Nat) : Int) &&& BitVec.ofInt IntKind.u8.bits 15).toNat : Nat) = ((c.toNat % 16 : Nat) : Int) := by
 have : ∀ m : Fin 256, IntKind.u8.wrap ((BitVec.ofInt IntKind.u8.bits ((m.1 : Nat) : Int) &&& BitVec.ofInt IntKind.u8.bits 15).toNat : Nat) = ((m.1 % 16 : Nat) : Int) := by decide +kernel
 exact this ⟨c.toNat, c.toNat_lt⟩
theorem or16 {a b : Int} (h0 : 0 ≤ a) (h1 : a < 16) (h2 : 0 ≤ b) (h3 : b < 16) : IntKind.i64.wrap ((BitVec.ofInt IntKind.i64.bits (a * 16) ||| BitVec.ofInt IntKind.i64.bits b).toNat : Nat) = a * 16 + b := by
 have : ∀ m n : Fin 16, IntKind.i64.wrap ((BitVec.ofInt IntKind.i64.bits ((m.1 : Int) * 16) ||| BitVec.ofInt IntKind.i64.bits (n.1 : Int)).toNat : Nat) = (m.1 : Int) * 16 + (n.1 : Int) := by decide +kernel
 have h := this ⟨a.toNat, by omega⟩ ⟨b.toNat, by omega⟩
 simp only at h
 rw [Int.toNat_of_nonneg h0, Int.toNat_of_nonneg h2] at h
 exact h
theorem quo16 (c : UInt8) : IntKind.u8.wrap (((c.toNat : Nat) : Int).tdiv 16) = ((c.toNat / 16 : Nat) : Int) := by
 have hc := c.toNat_lt
 rw [Int.tdiv_eq_ediv_of_nonneg (by omega), u8_small (by omega) (by omega)]
 omega
theorem rem16 (c : UInt8) : ((c.toNat : Nat) : Int).tmod 16 = ((c.toNat % 16 : Nat) : Int) := by
 rw [Int.tmod_eq_emod_of_nonneg (by omega)]
 omega
def unhexV (s : ByteArray) : AV := match decL (bl s) with
 | some o => .tup [.str (bs o), .bool (decide (s.size % 2 = 0))]
 | none => .tup [.str ⟨#[]⟩, .bool false]
def fromV (s : ByteArray) : AV := if s.size % 2 = 1 then .tup [.str ⟨#[]⟩, .bool false] else match decL (bl s) with
 | some o => .tup [.str (bs o), .bool true]
 | none => .tup [.str ⟨#[]⟩, .bool false]
structure DecInv (s : ByteArray) (i : Nat) (out : List UInt8) : Prop where
 le : i ≤ s.size
 len : out.length ≤ i
 even : i % 2 = 0
 eq : decL (bl s) = (decL ((bl s).drop i)).map (out ++ ·)
theorem dec0 (s : ByteArray) : DecInv s 0 [] := ⟨by omega, by simp, rfl, by simp⟩
theorem DecInv.bad {s : ByteArray} {i : Nat} {out : List UInt8} {a c : UInt8} (h : DecInv s i out) (ha : s[i]? = some a) (hc : s[i + 1]? = some c) (hd : dv a < 0 ∨ dv c < 0) : decL (bl s) = none := by
 rw [get_bl] at ha hc
 rw [h.eq, drop_at' ha, drop_at' hc, decL, if_pos hd]
 rfl
theorem DecInv.next {s : ByteArray} {i : Nat} {out : List UInt8} {a c : UInt8} (h : DecInv s i out) (ha : s[i]? = some a) (hc : s[i + 1]? = some c) (hd : ¬ (dv a < 0 ∨ dv c < 0)) : DecInv s (i + 2) (out ++ [UInt8.ofNat (dv a * 16 + dv c).toNat]) := by
 have hlt := (getElem?_eq_some_iff.1 hc).1
 rw [get_bl] at ha hc
 refine ⟨by omega, by have := h.len; simp; omega, by have := h.even; omega, ?_⟩
 rw [h.eq, drop_at' ha, drop_at' hc, decL, if_neg hd, Option.map_map]
 congr 1
 funext x
 simp
theorem DecInv.done {s : ByteArray} {i : Nat} {out : List UInt8} (h : DecInv s i out) (hi : s.size ≤ i + 1) : decL (bl s) = some out := by
 rw [h.eq]
 have hl : ((bl s).drop i).length ≤ 1 := by rw [List.length_drop, ← bl_size]; omega
 match hd : (bl s).drop i, hl with
 | [], _ => simp [decL]
 | [x], _ => simp [decL]
set_option maxHeartbeats 4000000 in
theorem zIB0 (G : Glob) (s : ByteArray) (c : UInt8) : Vi.Fn Tryz.prog G 116 [.str s, .int .u8 (c.toNat : Nat)] (.int .i64 (Lib.indexByte (bl s) c)) := by
 refine fn_body (fun _ => .iso) Tryz.func116 rfl ?_
 refine vc_norm (env' := [_, _, _, _, _, _, _, _]) (H' := []) rfl rfl ?_
 refine vs (wr ?_)
 refine wN rfl rfl rfl (v8 rfl ?_)
 refine we rfl (vs (wr ?_))
 iterate 2 refine wN rfl rfl rfl (v8 rfl ?_)
 refine w_ext (v := .int .i64 (Lib.indexByte (bl s) c)) (env' := _) rfl rfl rfl (by kernel_rfl) (ext_index (by kernel_rfl) (by kernel_rfl) s c) rfl (v8 rfl ?_)
 refine wN rfl rfl rfl (v8 rfl ?_)
 refine we rfl (vc_ret (r_fn rfl ?_))
 rfl
set_option maxHeartbeats 4000000 in
theorem zIB (G : Glob) (s : ByteArray) (c : UInt8) : Vi.Fn Tryz.prog G 85 [.str s, .int .u8 (c.toNat : Nat)] (.int .i64 (Lib.indexByte (bl s) c)) := by
 refine fn_body (fun _ => .iso) Tryz.func85 rfl ?_
 refine vc_norm (env' := [_, _, _, _, _, _, _, _]) (H' := []) rfl rfl ?_
 refine vs (wr ?_)
 refine wN rfl rfl rfl (v8 rfl ?_)
 refine we rfl (vs (wr ?_))
 iterate 2 refine wN rfl rfl rfl (v8 rfl ?_)
 refine w_callI (env' := _) rfl rfl rfl (by kernel_rfl) rfl (by repeat' first | exact IsL.lend ‹_› | exact IsL.lend0 ‹_› | refine mapL_cons ?_ ?_ | refine lend_agg ?_ | rfl) (zIB0 G s c) rfl (v8 rfl ?_)
 refine wN rfl rfl rfl (v8 rfl ?_)
 refine we rfl (vc_ret (r_fn rfl ?_))
 rfl
set_option maxHeartbeats 4000000 in
theorem zDigit (G : Glob) (c : UInt8) : Vi.Fn Tryz.prog G 91 [.int .u8 (c.toNat : Nat)] (.int .i64 (dv c)) := by
 have hcl := c.toNat_lt
 refine fn_body (fun _ => .iso) Tryz.func91 rfl ?_
 refine vc_norm (env' := (_ :: _ :: _ :: _ :: _ :: _ :: _ :: _ :: _ :: _ :: _ :: _ :: _ :: _ :: _ :: _ :: _ :: _ :: _ :: _ :: _ :: _ :: _ :: _ :: [])) (H' := []) rfl rfl ?_
 refine vs (wr ?_)
 refine wN rfl rfl rfl (v24 rfl ?_)
 refine we rfl (vs (vc_block (vs (wr ?_))))
 iterate 3 refine wN rfl rfl rfl (v24 rfl ?_)
 refine w_split 6 rfl (fun hg6 => ?_) (fun hg6 => ?_)
 ·
  refine v24 rfl ?_
  iterate 2 refine wN (wanted_t 6 (by kernel_rfl) rfl) rfl rfl (v24 rfl ?_)
  iterate 2 refine wN rfl rfl rfl (v24 rfl ?_)
  refine we rfl ?_
  refine vc_cond rfl (fun hc3 => ?_) (fun hc3 => ?_)
  ·
   refine vs (wr ?_)
   refine wN rfl rfl rfl (v24 rfl ?_)
   refine wN (v := .int .u8 (((c.toNat : Nat) : Int) - 48)) rfl (u8_eq (by have h1 := of_decide_eq_true hg6; exact u8_small (by omega) (by omega))) rfl (v24 rfl ?_)
   refine wN (v := .int .i64 (((c.toNat : Nat) : Int) - 48)) rfl (int_eq (i64_small (by omega) (by omega))) rfl (v24 rfl ?_)
   refine wN rfl rfl rfl (v24 rfl ?_)
   refine we rfl (vc_ret (r_block (r_then (r_fn rfl ?_))))
   have h1 := of_decide_eq_true hg6
   have h2 := of_decide_eq_true hc3
   show some (AV.int .i64 _) = some (AV.int .i64 (dv c))
   congr 2
   unfold dv
   split
   · omega
   · split <;> omega
  ·
   refine vs (wr ?_)
   iterate 3 refine wN rfl rfl rfl (v24 rfl ?_)
   refine w_split 16 rfl (fun hg16 => ?_) (fun hg16 => ?_)
   ·
    refine v24 rfl ?_
    iterate 2 refine wN (wanted_t 16 (by kernel_rfl) rfl) rfl rfl (v24 rfl ?_)
    iterate 2 refine wN rfl rfl rfl (v24 rfl ?_)
    refine we rfl ?_
    refine vc_cond rfl (fun hc13 => ?_) (fun hc13 => ?_)
    ·
     refine vs (wr ?_)
     refine wN rfl rfl rfl (v24 rfl ?_)
     refine wN (v := .int .u8 (((c.toNat : Nat) : Int) - 97)) rfl (u8_eq (by have h1 := of_decide_eq_true hg16; exact u8_small (by omega) (by omega))) rfl (v24 rfl ?_)
     refine wN (v := .int .i64 (((c.toNat : Nat) : Int) - 97)) rfl (int_eq (i64_small (by omega) (by omega))) rfl (v24 rfl ?_)
     refine wN (v := .int .i64 (((c.toNat : Nat) : Int) - 87)) rfl (int_eq (by rw [i64_small (by omega) (by omega)]; omega)) rfl (v24 rfl ?_)
     refine wN rfl rfl rfl (v24 rfl ?_)
     refine we rfl (vc_ret (r_block (r_then (r_fn rfl ?_))))
     have h1 := of_decide_eq_false hc3
     have h2 := of_decide_eq_true hg16
     have h3 := of_decide_eq_true hc13
     show some (AV.int .i64 _) = some (AV.int .i64 (dv c))
     congr 2
     unfold dv
     split
     · omega
     · split <;> omega
    ·
     refine vc_skip (n_block (n_then (vs (wr ?_))))
     refine wN rfl rfl rfl (v24 rfl ?_)
     refine we rfl (vc_ret (r_fn rfl ?_))
     have h1 := of_decide_eq_false hc3
     have h2 := of_decide_eq_true hg16
     have h3 := of_decide_eq_false hc13
     show some (AV.int .i64 _) = some (AV.int .i64 (dv c))
     congr 2
     unfold dv
     split
     · omega
     · split <;> omega
   ·
    refine v24 rfl ?_
    iterate 2 refine wS (wanted_f 16 (by kernel_rfl) rfl) (v24 rfl ?_)
    iterate 2 refine wN rfl rfl rfl (v24 rfl ?_)
    refine we rfl ?_
    refine vc_false rfl ?_
    refine vc_skip (n_block (n_then (vs (wr ?_))))
    refine wN rfl rfl rfl (v24 rfl ?_)
    refine we rfl (vc_ret (r_fn rfl ?_))
    have h1 := of_decide_eq_false hc3
    have h2 := of_decide_eq_false hg16
    show some (AV.int .i64 _) = some (AV.int .i64 (dv c))
    congr 2
    unfold dv
    split
    · omega
    · split <;> omega
 ·
  refine v24 rfl ?_
  iterate 2 refine wS (wanted_f 6 (by kernel_rfl) rfl) (v24 rfl ?_)
  iterate 2 refine wN rfl rfl rfl (v24 rfl ?_)
  refine we rfl ?_
  refine vc_false rfl ?_
  refine vs (wr ?_)
  iterate 3 refine wN rfl rfl rfl (v24 rfl ?_)
  refine w_split 16 rfl (fun hg16 => ?_) (fun hg16 => ?_)
  ·
   refine v24 rfl ?_
   iterate 2 refine wN (wanted_t 16 (by kernel_rfl) rfl) rfl rfl (v24 rfl ?_)
   iterate 2 refine wN rfl rfl rfl (v24 rfl ?_)
   refine we rfl ?_
   refine vc_cond rfl (fun hc13 => ?_) (fun hc13 => ?_)
   ·
    refine vs (wr ?_)
    refine wN rfl rfl rfl (v24 rfl ?_)
    refine wN (v := .int .u8 (((c.toNat : Nat) : Int) - 97)) rfl (u8_eq (by have h1 := of_decide_eq_true hg16; exact u8_small (by omega) (by omega))) rfl (v24 rfl ?_)
    refine wN (v := .int .i64 (((c.toNat : Nat) : Int) - 97)) rfl (int_eq (i64_small (by omega) (by omega))) rfl (v24 rfl ?_)
    refine wN (v := .int .i64 (((c.toNat : Nat) : Int) - 87)) rfl (int_eq (by rw [i64_small (by omega) (by omega)]; omega)) rfl (v24 rfl ?_)
    refine wN rfl rfl rfl (v24 rfl ?_)
    refine we rfl (vc_ret (r_block (r_then (r_fn rfl ?_))))
    have h1 := of_decide_eq_false hg6
    have h2 := of_decide_eq_true hg16
    have h3 := of_decide_eq_true hc13
    show some (AV.int .i64 _) = some (AV.int .i64 (dv c))
    congr 2
    unfold dv
    split
    · omega
    · split <;> omega
   ·
    refine vc_skip (n_block (n_then (vs (wr ?_))))
    refine wN rfl rfl rfl (v24 rfl ?_)
    refine we rfl (vc_ret (r_fn rfl ?_))
    have h1 := of_decide_eq_false hg6
    have h2 := of_decide_eq_true hg16
    have h3 := of_decide_eq_false hc13
    show some (AV.int .i64 _) = some (AV.int .i64 (dv c))
    congr 2
    unfold dv
    split
    · omega
    · split <;> omega
  ·
   refine v24 rfl ?_
   iterate 2 refine wS (wanted_f 16 (by kernel_rfl) rfl) (v24 rfl ?_)
   iterate 2 refine wN rfl rfl rfl (v24 rfl ?_)
   refine we rfl ?_
   refine vc_false rfl ?_
   refine vc_skip (n_block (n_then (vs (wr ?_))))
   refine wN rfl rfl rfl (v24 rfl ?_)
   refine we rfl (vc_ret (r_fn rfl ?_))
   have h1 := of_decide_eq_false hg6
   have h2 := of_decide_eq_false hg16
   show some (AV.int .i64 _) = some (AV.int .i64 (dv c))
   congr 2
   unfold dv
   split
   · omega
   · split <;> omega
set_option maxHeartbeats 4000000 in
theorem zHexed (G : Glob) (s : ByteArray) (hlen : s.size ≤ 1000000) : Vi.Fn Tryz.prog G 37 [.str s] (.str (hexS s)) := by
 refine fn_body (fun _ => .iso) Tryz.func37 rfl ?_
 refine vc_norm (env' := (_ :: _ :: _ :: _ :: _ :: _ :: _ :: _ :: _ :: _ :: _ :: _ :: _ :: _ :: _ :: _ :: _ :: _ :: _ :: _ :: _ :: _ :: _ :: _ :: _ :: _ :: [])) (H' := []) rfl rfl ?_
 refine vs (wr ?_)
 refine wN rfl rfl rfl (v26 rfl ?_)
 refine we rfl (vs (wr ?_))
 refine wN rfl rfl rfl (v26 rfl ?_)
 refine we rfl (vs (vs (wr ?_)))
 iterate 3 refine wN rfl rfl rfl (v26 rfl ?_)
 refine we rfl (vc_block ?_)
 refine vc_loopN (α := { i : Nat // i ≤ s.size }) (fun i => ([none, none, none, some (pval 0 (bRows (hexL ((bl s).take i.1)))), some .undef, none, none, some (.int .i64 (i.1 : Nat))] ++ (rundef 16 ++ ([none, none])))) (fun i => [pobj 5 1 (bRows (hexL ((bl s).take i.1)))]) (fun i => s.size - i.1) ⟨0, by omega⟩ [0] (by repeat' first | exact trivial | refine ⟨.inl rfl, ?_⟩ | refine ⟨.inr rfl, ?_⟩ | refine ⟨.inr (IsL.ren1 ‹_›), ?_⟩ | fail) (by decide) (fun _ h => absurd h (by omega)) ⟨.inl rfl, trivial⟩ (fun _ => ⟨Nat.zero_le _, (by repeat' first | exact trivial | exact .inr ⟨_, rfl, rfl⟩ | exact IsL.valN ‹_› | exact (pval_N rfl) | refine ⟨?_, ?_⟩ | fail), ⟨pobj_N bRows_val, trivial⟩⟩) ?_
 rintro ⟨i, hi⟩ Y0 hY0
 refine vc_norm (env' := (_ :: _ :: _ :: (pval 0 (bRows (hexL ((bl s).take i)))) :: _ :: _ :: _ :: (.int .i64 (i : Int)) :: _ :: _ :: _ :: _ :: _ :: _ :: _ :: _ :: _ :: _ :: _ :: _ :: _ :: _ :: _ :: _ :: _ :: _ :: [])) (H' := [pobj 5 1 (bRows (hexL ((bl s).take i)))]) rfl rfl ?_
 have hrl : (bRows (hexL ((bl s).take i))).length = 2 * i := by rw [bRows_len, hexL_len, List.length_take, ← bl_size]; omega
 refine vs (wr ?_)
 refine wN rfl rfl rfl (v26 rfl ?_)
 refine we rfl (vs ?_)
 refine vc_cond rfl (fun hc8 => ?_) (fun hc8 => ?_)
 ·
  have hlt : i < s.size := by have := of_decide_eq_true hc8; omega
  obtain ⟨c, hc⟩ : ∃ c, s[i]? = some c := ⟨s[i], getElem?_pos s i hlt⟩
  have hcl := c.toNat_lt
  have hsn : hexL ((bl s).take (i + 1)) = hexL ((bl s).take i) ++ hexByte c := hexL_snoc (by rw [← get_bl]; exact hc)
  have hrn : bRows (hexL ((bl s).take (i + 1))) = bRows (hexL ((bl s).take i)) ++ [[.int .u8 ((hd (c.toNat / 16)).toNat : Nat)], [.int .u8 ((hd (c.toNat % 16)).toNat : Nat)]] := by rw [hsn, bRows_app]; rfl
  refine vc_skip (n_then (vs (vc_block (vs (wr ?_)))))
  iterate 2 refine wN rfl rfl rfl (v26 rfl ?_)
  refine we rfl (w_regionD (by kernel_rfl) ?_)
  iterate 3 refine dN rfl rfl rfl (d26 rfl ?_)
  refine dN (v := .int .u8 (c.toNat : Nat)) rfl (g_str Tryz.underlying9 (by omega) hc) rfl (d26 rfl ?_)
  refine dN (v := .int .u8 ((c.toNat / 16 : Nat) : Int)) rfl (u8_eq (shr4 c)) rfl (d26 rfl ?_)
  refine dN (v := .int .u8 ((hd (c.toNat / 16)).toNat : Nat)) rfl (g_str Tryz.underlying9 (by omega) (hexDig_get (by omega))) rfl (d26 rfl ?_)
  iterate 2 refine dN rfl rfl rfl (d26 rfl ?_)
  refine dN (v := .int .u8 (c.toNat : Nat)) rfl (g_str Tryz.underlying9 (by omega) hc) rfl (d26 rfl ?_)
  refine dN (v := .int .u8 ((c.toNat % 16 : Nat) : Int)) rfl (u8_eq (and15 c)) rfl (d26 rfl ?_)
  refine dN (v := .int .u8 ((hd (c.toNat % 16)).toNat : Nat)) rfl (g_str Tryz.underlying9 (by omega) (hexDig_get (by omega))) rfl (d26 rfl ?_)
  refine dN rfl rfl rfl (d26 rfl ?_)
  refine d_opH (v := .row false 1 0 (2 * i + 2)) (env' := _) (H2 := [.dead, .arr 5 1 (bRows (hexL ((bl s).take i)) ++ [[.int .u8 ((hd (c.toNat / 16)).toNat : Nat)], [.int .u8 ((hd (c.toNat % 16)).toNat : Nat)]])]) rfl ((acc_append (H := [pobj 5 1 (bRows (hexL ((bl s).take i)))]) (pgs := bRows (hexL ((bl s).take i))) (news := [[.int .u8 ((hd (c.toNat / 16)).toNat : Nat)], [.int .u8 ((hd (c.toNat % 16)).toNat : Nat)]]) (x := .list .tight [[.int .u8 ((hd (c.toNat / 16)).toNat : Nat)], [.int .u8 ((hd (c.toNat % 16)).toNat : Nat)]]) (L := 0) (sz := 1) rfl el68 Tryz.underlying68 rfl zc5 by5 rfl rfl (by decide) (by decide) rfl rfl (by simp) rfl (by rw [hrl]; simp; omega)).trans (by rw [hrl]; rfl)) (.inl rfl) rfl (rfl) (fun _ h => h) (d26 rfl ?_)
  refine dN rfl rfl rfl (d26 rfl ?_)
  refine d_endB rfl (n_then (wr ?_))
  iterate 2 refine wN rfl rfl rfl (v26 rfl ?_)
  refine we rfl ?_
  refine hY0 ⟨i + 1, hlt⟩ (by simp only; omega) _ _ [1] ?_ (by decide) (fun _ h => absurd h (by omega)) ⟨.inr ⟨_, rfl, by rw [hrn]; exact pobj_app (by simp) (by rw [← hrn]; exact bRows_val)⟩, trivial⟩
  repeat' first | exact trivial | refine ⟨.inl rfl, ?_⟩ | refine ⟨.inr rfl, ?_⟩ | refine ⟨.inr (IsL.ren1 ‹_›), ?_⟩ | refine ⟨(.inr (by rw [hrn]; exact (pval_app (by simp) rfl).trans (by rw [hrl]; rfl))), ?_⟩ | refine ⟨(.inr ?_), ?_⟩ | fail
  all_goals first | exact congrArg some (int_succ (by omega)).symm
 ·
  have hge : ¬ i < s.size := by have := of_decide_eq_false hc8; omega
  have hall : hexL ((bl s).take i) = hexL (bl s) := by rw [List.take_of_length_le (by rw [← bl_size]; omega)]
  refine vc_exit (x_then (x_then (x_same (n_then (vs (wr ?_))))))
  refine wN rfl rfl rfl (v26 rfl ?_)
  refine wN (v := .str (hexS s)) rfl (conv_bytesE (H := [pobj 5 1 (bRows (hexL ((bl s).take i)))]) (L := 0) rfl (by rw [hall]; rfl)) rfl (v26 rfl ?_)
  refine wN rfl rfl rfl (v26 rfl ?_)
  refine we rfl (vc_ret (r_fn rfl ?_))
  rfl
set_option maxHeartbeats 4000000 in
theorem zHex (G : Glob) (s : ByteArray) (hlen : s.size ≤ 1000000) : Vi.Fn Tryz.prog G 42 [.str s] (.str (hexS s)) := by
 refine fn_body (fun _ => .iso) Tryz.func42 rfl ?_
 refine vc_norm (env' := (_ :: _ :: _ :: _ :: _ :: _ :: _ :: _ :: _ :: _ :: _ :: _ :: _ :: _ :: _ :: _ :: _ :: _ :: _ :: _ :: _ :: _ :: _ :: _ :: _ :: _ :: _ :: _ :: _ :: _ :: _ :: _ :: _ :: _ :: _ :: [])) (H' := []) rfl rfl ?_
 refine vs (wr ?_)
 refine wN rfl rfl rfl (v35 rfl ?_)
 refine we rfl (vs (wr ?_))
 refine wN rfl rfl rfl (v35 rfl ?_)
 refine we rfl (vs (vs (wr ?_)))
 refine wN rfl rfl rfl (v35 rfl ?_)
 refine we rfl (vc_block ?_)
 refine vc_loopU (α := { i : Nat // i ≤ s.size }) (fun i => ([none, none, none, some (.str (bs (hexL ((bl s).take i.1)))), some (.int .i64 (i.1 : Nat))] ++ (rundef 29 ++ ([none])))) (fun i => s.size - i.1) ⟨0, by omega⟩ (by repeat' first | exact trivial | refine ⟨.inr rfl, ?_⟩ | refine ⟨.inl rfl, ?_⟩ | fail) (fun _ => ⟨Nat.zero_le _, (by repeat' first | exact trivial | exact IsL.belowV ‹_› | refine ⟨?_, ?_⟩ | exact IsL.below ‹_› | (simp [valB, leafB, cellsB, IsL.below, *]; done) | (simp [valB, leafB, cellsB, IsL.below, *]; omega) | fail), (by repeat' first | exact trivial | exact IsL.below (by assumption) | refine ⟨?_, ?_⟩ | (simp [leafB]; done))⟩) ?_
 rintro ⟨i, hi⟩ Y0 hY0
 refine vc_norm (env' := (_ :: _ :: _ :: (.str (bs (hexL ((bl s).take i)))) :: (.int .i64 (i : Int)) :: _ :: _ :: _ :: _ :: _ :: _ :: _ :: _ :: _ :: _ :: _ :: _ :: _ :: _ :: _ :: _ :: _ :: _ :: _ :: _ :: _ :: _ :: _ :: _ :: _ :: _ :: _ :: _ :: _ :: _ :: [])) (H' := []) rfl rfl ?_
 have hrl : (hexL ((bl s).take i)).length = 2 * i := by rw [hexL_len, List.length_take, ← bl_size]; omega
 refine vs (vs (wr ?_))
 iterate 4 refine wN rfl rfl rfl (v35 rfl ?_)
 refine we rfl ?_
 refine vc_cond rfl (fun hc8 => ?_) (fun hc8 => ?_)
 ·
  have hlt : i < s.size := by have := of_decide_eq_true hc8; omega
  obtain ⟨c, hc⟩ : ∃ c, s[i]? = some c := ⟨s[i], getElem?_pos s i hlt⟩
  have hcl := c.toNat_lt
  have hsn : hexL ((bl s).take (i + 1)) = hexL ((bl s).take i) ++ hexByte c := hexL_snoc (by rw [← get_bl]; exact hc)
  have hrn : bRows (hexL ((bl s).take (i + 1))) = bRows (hexL ((bl s).take i)) ++ [[.int .u8 ((hd (c.toNat / 16)).toNat : Nat)], [.int .u8 ((hd (c.toNat % 16)).toNat : Nat)]] := by rw [hsn, bRows_app]; rfl
  refine vc_skip (n_then (vs (vc_block (w_regionD (by kernel_rfl) ?_))))
  iterate 3 refine dN rfl rfl rfl (d35 rfl ?_)
  refine dN (v := .int .u8 (c.toNat : Nat)) rfl (g_str Tryz.underlying9 (by omega) hc) rfl (d35 rfl ?_)
  refine dN (v := .int .u8 ((c.toNat / 16 : Nat) : Int)) rfl (u8_eq (quo16 c)) rfl (d35 rfl ?_)
  iterate 2 refine dN rfl rfl rfl (d35 rfl ?_)
  refine dN (v := .int .u8 (c.toNat : Nat)) rfl (g_str Tryz.underlying9 (by omega) hc) rfl (d35 rfl ?_)
  refine dN (v := .int .u8 ((c.toNat / 16 : Nat) : Int)) rfl (u8_eq (quo16 c)) rfl (d35 rfl ?_)
  refine dN (v := .int .u8 ((c.toNat / 16 + 1 : Nat) : Int)) rfl (u8_eq ((u8_small (by omega) (by omega)).trans (by omega))) rfl (d35 rfl ?_)
  refine dN (v := .str (bs [hd (c.toNat / 16)])) rfl (hexDig_sl (by omega)) rfl (d35 rfl ?_)
  iterate 2 refine dN rfl rfl rfl (d35 rfl ?_)
  refine dN (v := .int .u8 (c.toNat : Nat)) rfl (g_str Tryz.underlying9 (by omega) hc) rfl (d35 rfl ?_)
  refine dN (v := .int .u8 ((c.toNat % 16 : Nat) : Int)) rfl (u8_eq (rem16 c)) rfl (d35 rfl ?_)
  iterate 2 refine dN rfl rfl rfl (d35 rfl ?_)
  refine dN (v := .int .u8 (c.toNat : Nat)) rfl (g_str Tryz.underlying9 (by omega) hc) rfl (d35 rfl ?_)
  refine dN (v := .int .u8 ((c.toNat % 16 : Nat) : Int)) rfl (u8_eq (rem16 c)) rfl (d35 rfl ?_)
  refine dN (v := .int .u8 ((c.toNat % 16 + 1 : Nat) : Int)) rfl (u8_eq ((u8_small (by omega) (by omega)).trans (by omega))) rfl (d35 rfl ?_)
  refine dN (v := .str (bs [hd (c.toNat % 16)])) rfl (hexDig_sl (by omega)) rfl (d35 rfl ?_)
  refine dN (v := .str (bs (hexByte c))) rfl (s_add (P := Tryz.prog) (H := []) (t := 9) (a := [hd (c.toNat / 16)]) (c := [hd (c.toNat % 16)]) (by simp)) rfl (d35 rfl ?_)
  refine dN (v := .str (bs (hexL ((bl s).take i) ++ hexByte c))) rfl (s_add (P := Tryz.prog) (H := []) (t := 9) (by rw [hrl]; simp [hexByte]; omega)) rfl (d35 rfl ?_)
  refine dN rfl rfl rfl (d35 rfl ?_)
  refine d_endB rfl (n_then (wr ?_))
  iterate 3 refine wN rfl rfl rfl (v35 rfl ?_)
  refine we rfl ?_
  refine hY0 ⟨i + 1, hlt⟩ (by simp only; omega) _ _ _ ?_ rfl
  repeat' first | exact trivial | refine ⟨.inr rfl, ?_⟩ | refine ⟨.inl rfl, ?_⟩ | refine ⟨.inl ?_, ?_⟩ | fail
  all_goals first | (show AV.str (bs (hexL (List.take (i + 1) (bl s)))) = _; rw [hsn]) | exact (int_succ (by omega)).symm
 ·
  have hge : ¬ i < s.size := by have := of_decide_eq_false hc8; omega
  have hall : hexL ((bl s).take i) = hexL (bl s) := by rw [List.take_of_length_le (by rw [← bl_size]; omega)]
  refine vc_exit (x_then (x_then (x_same (n_then (vs (wr ?_))))))
  iterate 2 refine wN rfl rfl rfl (v35 rfl ?_)
  refine we rfl (vc_ret (r_fn rfl ?_))
  show some (AV.str (bs (hexL ((bl s).take i)))) = some (AV.str (hexS s))
  rw [hall]
  rfl
set_option maxHeartbeats 4000000 in
theorem zUnhexed (G : Glob) (s : ByteArray) (hlen : s.size ≤ 1000000) : Vi.Fn Tryz.prog G 47 [.str s] (unhexV s) := by
 refine fn_body (fun _ => .iso) Tryz.func47 rfl ?_
 refine vc_norm (env' := (_ :: _ :: _ :: _ :: _ :: _ :: _ :: _ :: _ :: _ :: _ :: _ :: _ :: _ :: _ :: _ :: _ :: _ :: _ :: _ :: _ :: _ :: _ :: _ :: _ :: _ :: _ :: _ :: _ :: _ :: _ :: _ :: _ :: _ :: _ :: _ :: _ :: _ :: _ :: _ :: _ :: _ :: _ :: _ :: [])) (H' := []) rfl rfl ?_
 refine vs (wr ?_)
 iterate 2 refine wN rfl rfl rfl (v44 rfl ?_)
 refine we rfl (vs (wr ?_))
 refine wN rfl rfl rfl (v44 rfl ?_)
 refine we rfl (vs (vs (wr ?_)))
 refine wN rfl rfl rfl (v44 rfl ?_)
 refine we rfl (vc_block ?_)
 refine vc_loopN (α := { a : Nat × List UInt8 // DecInv s a.1 a.2 }) (fun a => ([none, none, some .undef, some .undef, some (pval 0 (bRows a.1.2)), some (.int .i64 (a.1.1 : Nat))] ++ (rundef 32 ++ (rnone 6)))) (fun a => [pobj 5 1 (bRows a.1.2)]) (fun a => s.size - a.1.1) ⟨(0, []), dec0 s⟩ [0] (by repeat' first | exact trivial | refine ⟨.inl rfl, ?_⟩ | refine ⟨.inr rfl, ?_⟩ | refine ⟨.inr (IsL.ren1 ‹_›), ?_⟩ | fail) (by decide) (fun _ h => absurd h (by omega)) ⟨.inl rfl, trivial⟩ (fun a => ⟨Nat.zero_le _, (by repeat' first | exact trivial | exact .inr ⟨_, rfl, rfl⟩ | exact IsL.valN ‹_› | exact (pval_N rfl) | refine ⟨?_, ?_⟩ | fail), ⟨pobj_N bRows_val, trivial⟩⟩) ?_
 rintro ⟨⟨i, out⟩, hI⟩ Y0 hY0
 refine vc_norm (env' := (_ :: _ :: _ :: _ :: (pval 0 (bRows out)) :: (.int .i64 (i : Int)) :: _ :: _ :: _ :: _ :: _ :: _ :: _ :: _ :: _ :: _ :: _ :: _ :: _ :: _ :: _ :: _ :: _ :: _ :: _ :: _ :: _ :: _ :: _ :: _ :: _ :: _ :: _ :: _ :: _ :: _ :: _ :: _ :: _ :: _ :: _ :: _ :: _ :: _ :: [])) (H' := [pobj 5 1 (bRows out)]) rfl rfl ?_
 replace hI : DecInv s i out := hI
 have hIl := hI.le
 have hIo := hI.len
 have hIe := hI.even
 have hrl : (bRows out).length = out.length := bRows_len _
 refine vs (vs (wr ?_))
 iterate 5 refine wN rfl rfl rfl (v44 rfl ?_)
 refine we rfl ?_
 refine vc_cond rfl (fun hc12 => ?_) (fun hc12 => ?_)
 ·
  have hlt : i + 1 < s.size := by have := of_decide_eq_true hc12; rw [i64_small (by omega) (by omega)] at this; omega
  obtain ⟨a, ha⟩ : ∃ a, s[i]? = some a := ⟨s[i], getElem?_pos s i (by omega)⟩
  obtain ⟨c, hc⟩ : ∃ c, s[i + 1]? = some c := ⟨s[i + 1], getElem?_pos s (i + 1) (by omega)⟩
  have hra := dv_range a
  have hrc := dv_range c
  have hwr : bRows (out ++ [UInt8.ofNat (dv a * 16 + dv c).toNat]) = bRows out ++ [[.int .u8 ((UInt8.ofNat (dv a * 16 + dv c).toNat).toNat : Nat)]] := by rw [bRows_app]; rfl
  refine vc_skip (n_then (vs (vc_block (vs (w_regionD (by kernel_rfl) ?_)))))
  iterate 2 refine dN rfl rfl rfl (d44 rfl ?_)
  refine dN (v := .int .u8 (a.toNat : Nat)) rfl (g_str Tryz.underlying9 (by omega) ha) rfl (d44 rfl ?_)
  refine d_callI (env' := _) rfl rfl rfl (by kernel_rfl) rfl (by repeat' first | exact IsL.lend ‹_› | exact IsL.lend0 ‹_› | refine mapL_cons ?_ ?_ | refine lend_agg ?_ | rfl) ((index_dv a ▸ zIB G ⟨#[48, 49, 50, 51, 52, 53, 54, 55, 56, 57, 97, 98, 99, 100, 101, 102]⟩ a)) rfl (d44 rfl ?_)
  iterate 2 refine dN rfl rfl rfl (d44 rfl ?_)
  refine dN (v := .int .i64 ((i + 1 : Nat) : Int)) rfl (int_eq (by rw [i64_small (by omega) (by omega)]; omega)) rfl (d44 rfl ?_)
  refine dN (v := .int .u8 (c.toNat : Nat)) rfl (g_str Tryz.underlying9 (by omega) hc) rfl (d44 rfl ?_)
  refine d_callI (env' := _) rfl rfl rfl (by kernel_rfl) rfl (by repeat' first | exact IsL.lend ‹_› | exact IsL.lend0 ‹_› | refine mapL_cons ?_ ?_ | refine lend_agg ?_ | rfl) ((index_dv c ▸ zIB G ⟨#[48, 49, 50, 51, 52, 53, 54, 55, 56, 57, 97, 98, 99, 100, 101, 102]⟩ c)) rfl (d44 rfl ?_)
  iterate 2 refine dN rfl rfl rfl (d44 rfl ?_)
  refine d_end rfl (vs (vs (wr ?_)))
  iterate 3 refine wN rfl rfl rfl (v44 rfl ?_)
  refine w_split 26 rfl (fun hg26 => ?_) (fun hg26 => ?_)
  ·
   refine v44 rfl ?_
   iterate 2 refine wS (wanted_f 26 (by kernel_rfl) rfl) (v44 rfl ?_)
   refine wN rfl rfl rfl (v44 rfl ?_)
   refine we rfl ?_
   refine vc_true rfl ?_
   refine vs (wr ?_)
   iterate 2 refine wN rfl rfl rfl (v44 rfl ?_)
   refine we rfl (vc_ret (r_then (r_block (r_then (r_then (r_block (r_then (r_fn rfl ?_))))))))
   have hb := hI.bad ha hc (.inl (of_decide_eq_true hg26))
   show some (AV.tup [.str ⟨#[]⟩, .bool false]) = some (unhexV s)
   rw [unhexV, hb]
  ·
   refine v44 rfl ?_
   iterate 2 refine wN (wanted_t 26 (by kernel_rfl) rfl) rfl rfl (v44 rfl ?_)
   refine wN rfl rfl rfl (v44 rfl ?_)
   refine we rfl ?_
   refine vc_cond rfl (fun hc29 => ?_) (fun hc29 => ?_)
   ·
    refine vs (wr ?_)
    iterate 2 refine wN rfl rfl rfl (v44 rfl ?_)
    refine we rfl (vc_ret (r_then (r_block (r_then (r_then (r_block (r_then (r_fn rfl ?_))))))))
    have hb := hI.bad ha hc (.inr (of_decide_eq_true hc29))
    show some (AV.tup [.str ⟨#[]⟩, .bool false]) = some (unhexV s)
    rw [unhexV, hb]
   ·
    have hok : ¬ (dv a < 0 ∨ dv c < 0) := by have h1 := of_decide_eq_false hg26; have h2 := of_decide_eq_false hc29; omega
    refine vc_skip (n_then (wr ?_))
    iterate 2 refine wN rfl rfl rfl (v44 rfl ?_)
    refine wN (v := .int .i64 (dv a * 16)) rfl (int_eq (by have e : (2 : Int) ^ (min (Int.toNat 4) IntKind.i64.bits) = 16 := rfl; rw [e, i64_small (by omega) (by omega)])) rfl (v44 rfl ?_)
    refine wN rfl rfl rfl (v44 rfl ?_)
    refine wN (v := .int .i64 (dv a * 16 + dv c)) rfl (int_eq (or16 (by omega) (by omega) (by omega) (by omega))) rfl (v44 rfl ?_)
    refine wN (v := .int .u8 ((UInt8.ofNat (dv a * 16 + dv c).toNat).toNat : Nat)) rfl (u8_eq (by rw [u8_small (by omega) (by omega)]; simp; omega)) rfl (v44 rfl ?_)
    refine wN rfl rfl rfl (v44 rfl ?_)
    refine w_opH (v := .row false 1 0 (out.length + 1)) (env' := _) (H2 := [.dead, .arr 5 1 (bRows out ++ [[.int .u8 ((UInt8.ofNat (dv a * 16 + dv c).toNat).toNat : Nat)]])]) rfl ((acc_append (H := [pobj 5 1 (bRows out)]) (pgs := bRows out) (news := [[.int .u8 ((UInt8.ofNat (dv a * 16 + dv c).toNat).toNat : Nat)]]) (x := .list .tight [[.int .u8 ((UInt8.ofNat (dv a * 16 + dv c).toNat).toNat : Nat)]]) (L := 0) (sz := 1) rfl el68 Tryz.underlying68 rfl zc5 by5 rfl rfl (by decide) (by decide) rfl rfl (by simp) rfl (by rw [hrl]; simp; omega)).trans (by rw [hrl]; rfl)) rfl (rfl) (fun _ h => h) (v44 rfl ?_)
    refine wN rfl rfl rfl (v44 rfl ?_)
    refine w_endB rfl (n_then (wr ?_))
    iterate 3 refine wN rfl rfl rfl (v44 rfl ?_)
    refine we rfl ?_
    refine hY0 ⟨(i + 2, out ++ [UInt8.ofNat (dv a * 16 + dv c).toNat]), hI.next ha hc hok⟩ (by simp only; omega) _ _ [1] ?_ (by decide) (fun _ h => absurd h (by omega)) ⟨.inr ⟨_, rfl, by show renO _ (pobj 5 1 (bRows (out ++ [UInt8.ofNat (dv a * 16 + dv c).toNat]))) = _; rw [hwr]; exact pobj_snoc (by rw [← hwr]; exact bRows_val)⟩, trivial⟩
    repeat' first | exact trivial | refine ⟨.inl rfl, ?_⟩ | refine ⟨.inr rfl, ?_⟩ | refine ⟨.inr (IsL.ren1 ‹_›), ?_⟩ | refine ⟨(.inr (by show Vi.ren1 _ (pval 0 (bRows (out ++ [UInt8.ofNat (dv a * 16 + dv c).toNat]))) = _; rw [hwr]; exact (pval_snoc rfl).trans (by rw [hrl]))), ?_⟩ | refine ⟨(.inr ?_), ?_⟩ | fail
    all_goals first | (exact congrArg some (congrArg (AV.int .i64) (show IntKind.i64.wrap ((i : Int) + 2) = ((i + 2 : Nat) : Int) by rw [i64_small (by omega) (by omega)]; omega).symm))
 ·
  have hge : s.size ≤ i + 1 := by have := of_decide_eq_false hc12; rw [i64_small (by omega) (by omega)] at this; omega
  have hdn := hI.done hge
  refine vc_exit (x_then (x_then (x_same (n_then (vs (wr ?_))))))
  refine wN rfl rfl rfl (v44 rfl ?_)
  refine wN (v := .str (bs out)) rfl (conv_bytes (H := [pobj 5 1 (bRows out)]) (L := 0) rfl) rfl (v44 rfl ?_)
  iterate 6 refine wN rfl rfl rfl (v44 rfl ?_)
  refine we rfl (vc_ret (r_fn rfl ?_))
  show some (AV.tup [.str (bs out), .bool (((s.size : Nat) : Int).tmod 2 == 0)]) = some (unhexV s)
  have he : (((s.size : Nat) : Int).tmod 2 == 0) = decide (s.size % 2 = 0) := by rw [Int.tmod_eq_emod_of_nonneg (by omega), Bool.eq_iff_iff]; simp; omega
  rw [unhexV, hdn, he]
set_option maxHeartbeats 4000000 in
theorem zFromHex (G : Glob) (s : ByteArray) (hlen : s.size ≤ 1000000) : Vi.Fn Tryz.prog G 51 [.str s] (fromV s) := by
 refine fn_body (fun _ => .iso) Tryz.func51 rfl ?_
 refine vc_norm (env' := (_ :: _ :: _ :: _ :: _ :: _ :: _ :: _ :: _ :: _ :: _ :: _ :: _ :: _ :: _ :: _ :: _ :: _ :: _ :: _ :: _ :: _ :: _ :: _ :: _ :: _ :: _ :: _ :: _ :: _ :: _ :: _ :: _ :: _ :: _ :: _ :: _ :: _ :: _ :: _ :: _ :: _ :: _ :: [])) (H' := []) rfl rfl ?_
 refine vs (wr ?_)
 iterate 2 refine wN rfl rfl rfl (v43 rfl ?_)
 refine we rfl (vs (vs (wr ?_)))
 iterate 4 refine wN rfl rfl rfl (v43 rfl ?_)
 refine we rfl ?_
 refine vc_cond rfl (fun hc11 => ?_) (fun hc11 => ?_)
 ·
  have hod : s.size % 2 = 1 := by have := hc11; rw [Int.tmod_eq_emod_of_nonneg (by omega)] at this; simp at this; omega
  refine vs (wr ?_)
  iterate 2 refine wN rfl rfl rfl (v43 rfl ?_)
  refine we rfl (vc_ret (r_then (r_fn rfl ?_)))
  show some (AV.tup [.str ⟨#[]⟩, .bool false]) = some (fromV s)
  rw [fromV, if_pos hod]
 ·
  have hev : s.size % 2 = 0 := by have := hc11; rw [Int.tmod_eq_emod_of_nonneg (by omega)] at this; simp at this; omega
  refine vc_skip (n_then (vs (wr ?_)))
  refine wN rfl rfl rfl (v43 rfl ?_)
  refine we rfl (vs (vs (wr ?_)))
  refine wN rfl rfl rfl (v43 rfl ?_)
  refine we rfl (vc_block ?_)
  refine vc_loopN (α := { a : Nat × List UInt8 // DecInv s a.1 a.2 }) (fun a => ([none, none, some .undef, some .undef, some (pval 0 (bRows a.1.2)), some (.int .i64 (a.1.1 : Nat)), some .undef, some .undef] ++ (rnone 4 ++ (rundef 29 ++ ([none, none]))))) (fun a => [pobj 5 1 (bRows a.1.2)]) (fun a => s.size - a.1.1) ⟨(0, []), dec0 s⟩ [0] (by repeat' first | exact trivial | refine ⟨.inl rfl, ?_⟩ | refine ⟨.inr rfl, ?_⟩ | refine ⟨.inr (IsL.ren1 ‹_›), ?_⟩ | fail) (by decide) (fun _ h => absurd h (by omega)) ⟨.inl rfl, trivial⟩ (fun a => ⟨Nat.zero_le _, (by repeat' first | exact trivial | exact .inr ⟨_, rfl, rfl⟩ | exact IsL.valN ‹_› | exact (pval_N rfl) | refine ⟨?_, ?_⟩ | fail), ⟨pobj_N bRows_val, trivial⟩⟩) ?_
  rintro ⟨⟨i, out⟩, hI⟩ Y0 hY0
  refine vc_norm (env' := (_ :: _ :: _ :: _ :: (pval 0 (bRows out)) :: (.int .i64 (i : Int)) :: _ :: _ :: _ :: _ :: _ :: _ :: _ :: _ :: _ :: _ :: _ :: _ :: _ :: _ :: _ :: _ :: _ :: _ :: _ :: _ :: _ :: _ :: _ :: _ :: _ :: _ :: _ :: _ :: _ :: _ :: _ :: _ :: _ :: _ :: _ :: _ :: _ :: [])) (H' := [pobj 5 1 (bRows out)]) rfl rfl ?_
  replace hI : DecInv s i out := hI
  have hIl := hI.le
  have hIo := hI.len
  have hIe := hI.even
  have hrl : (bRows out).length = out.length := bRows_len _
  refine vs (vs (wr ?_))
  iterate 4 refine wN rfl rfl rfl (v43 rfl ?_)
  refine we rfl ?_
  refine vc_cond rfl (fun hc15 => ?_) (fun hc15 => ?_)
  ·
   have hlt : i + 1 < s.size := by have := of_decide_eq_true hc15; omega
   obtain ⟨a, ha⟩ : ∃ a, s[i]? = some a := ⟨s[i], getElem?_pos s i (by omega)⟩
   obtain ⟨c, hc⟩ : ∃ c, s[i + 1]? = some c := ⟨s[i + 1], getElem?_pos s (i + 1) (by omega)⟩
   have hra := dv_range a
   have hrc := dv_range c
   have hwr : bRows (out ++ [UInt8.ofNat (dv a * 16 + dv c).toNat]) = bRows out ++ [[.int .u8 ((UInt8.ofNat (dv a * 16 + dv c).toNat).toNat : Nat)]] := by rw [bRows_app]; rfl
   refine vc_skip (n_then (vs (vc_block (vs (w_regionD (by kernel_rfl) ?_)))))
   iterate 2 refine dN rfl rfl rfl (d43 rfl ?_)
   refine dN (v := .int .u8 (a.toNat : Nat)) rfl (g_str Tryz.underlying9 (by omega) ha) rfl (d43 rfl ?_)
   refine d_callI (env' := _) rfl rfl rfl (by kernel_rfl) rfl (by repeat' first | exact IsL.lend ‹_› | exact IsL.lend0 ‹_› | refine mapL_cons ?_ ?_ | refine lend_agg ?_ | rfl) (zDigit G a) rfl (d43 rfl ?_)
   iterate 2 refine dN rfl rfl rfl (d43 rfl ?_)
   refine dN (v := .int .i64 ((i + 1 : Nat) : Int)) rfl (int_eq (by rw [i64_small (by omega) (by omega)]; omega)) rfl (d43 rfl ?_)
   refine dN (v := .int .u8 (c.toNat : Nat)) rfl (g_str Tryz.underlying9 (by omega) hc) rfl (d43 rfl ?_)
   refine d_callI (env' := _) rfl rfl rfl (by kernel_rfl) rfl (by repeat' first | exact IsL.lend ‹_› | exact IsL.lend0 ‹_› | refine mapL_cons ?_ ?_ | refine lend_agg ?_ | rfl) (zDigit G c) rfl (d43 rfl ?_)
   iterate 2 refine dN rfl rfl rfl (d43 rfl ?_)
   refine d_end rfl (vs (vs (wr ?_)))
   iterate 3 refine wN rfl rfl rfl (v43 rfl ?_)
   refine w_split 29 rfl (fun hg29 => ?_) (fun hg29 => ?_)
   ·
    refine v43 rfl ?_
    iterate 2 refine wS (wanted_f 29 (by kernel_rfl) rfl) (v43 rfl ?_)
    refine wN rfl rfl rfl (v43 rfl ?_)
    refine we rfl ?_
    refine vc_true rfl ?_
    refine vs (wr ?_)
    iterate 2 refine wN rfl rfl rfl (v43 rfl ?_)
    refine we rfl (vc_ret (r_then (r_block (r_then (r_then (r_block (r_then (r_fn rfl ?_))))))))
    have hb := hI.bad ha hc (.inl (of_decide_eq_true hg29))
    show some (AV.tup [.str ⟨#[]⟩, .bool false]) = some (fromV s)
    rw [fromV, if_neg (by omega), hb]
   ·
    refine v43 rfl ?_
    iterate 2 refine wN (wanted_t 29 (by kernel_rfl) rfl) rfl rfl (v43 rfl ?_)
    refine wN rfl rfl rfl (v43 rfl ?_)
    refine we rfl ?_
    refine vc_cond rfl (fun hc32 => ?_) (fun hc32 => ?_)
    ·
     refine vs (wr ?_)
     iterate 2 refine wN rfl rfl rfl (v43 rfl ?_)
     refine we rfl (vc_ret (r_then (r_block (r_then (r_then (r_block (r_then (r_fn rfl ?_))))))))
     have hb := hI.bad ha hc (.inr (of_decide_eq_true hc32))
     show some (AV.tup [.str ⟨#[]⟩, .bool false]) = some (fromV s)
     rw [fromV, if_neg (by omega), hb]
    ·
     have hok : ¬ (dv a < 0 ∨ dv c < 0) := by have h1 := of_decide_eq_false hg29; have h2 := of_decide_eq_false hc32; omega
     refine vc_skip (n_then (wr ?_))
     iterate 2 refine wN rfl rfl rfl (v43 rfl ?_)
     refine wN (v := .int .i64 (16 * dv a)) rfl (int_eq (i64_small (by omega) (by omega))) rfl (v43 rfl ?_)
     refine wN rfl rfl rfl (v43 rfl ?_)
     refine wN (v := .int .i64 (dv a * 16 + dv c)) rfl (int_eq (by rw [i64_small (by omega) (by omega)]; omega)) rfl (v43 rfl ?_)
     refine wN (v := .int .u8 ((UInt8.ofNat (dv a * 16 + dv c).toNat).toNat : Nat)) rfl (u8_eq (by rw [u8_small (by omega) (by omega)]; simp; omega)) rfl (v43 rfl ?_)
     refine wN rfl rfl rfl (v43 rfl ?_)
     refine w_opH (v := .row false 1 0 (out.length + 1)) (env' := _) (H2 := [.dead, .arr 5 1 (bRows out ++ [[.int .u8 ((UInt8.ofNat (dv a * 16 + dv c).toNat).toNat : Nat)]])]) rfl ((acc_append (H := [pobj 5 1 (bRows out)]) (pgs := bRows out) (news := [[.int .u8 ((UInt8.ofNat (dv a * 16 + dv c).toNat).toNat : Nat)]]) (x := .list .tight [[.int .u8 ((UInt8.ofNat (dv a * 16 + dv c).toNat).toNat : Nat)]]) (L := 0) (sz := 1) rfl el68 Tryz.underlying68 rfl zc5 by5 rfl rfl (by decide) (by decide) rfl rfl (by simp) rfl (by rw [hrl]; simp; omega)).trans (by rw [hrl]; rfl)) rfl (rfl) (fun _ h => h) (v43 rfl ?_)
     refine wN rfl rfl rfl (v43 rfl ?_)
     refine w_endB rfl (n_then (wr ?_))
     iterate 3 refine wN rfl rfl rfl (v43 rfl ?_)
     refine we rfl ?_
     refine hY0 ⟨(i + 2, out ++ [UInt8.ofNat (dv a * 16 + dv c).toNat]), hI.next ha hc hok⟩ (by simp only; omega) _ _ [1] ?_ (by decide) (fun _ h => absurd h (by omega)) ⟨.inr ⟨_, rfl, by show renO _ (pobj 5 1 (bRows (out ++ [UInt8.ofNat (dv a * 16 + dv c).toNat]))) = _; rw [hwr]; exact pobj_snoc (by rw [← hwr]; exact bRows_val)⟩, trivial⟩
     repeat' first | exact trivial | refine ⟨.inl rfl, ?_⟩ | refine ⟨.inr rfl, ?_⟩ | refine ⟨.inr (IsL.ren1 ‹_›), ?_⟩ | refine ⟨(.inr (by show Vi.ren1 _ (pval 0 (bRows (out ++ [UInt8.ofNat (dv a * 16 + dv c).toNat]))) = _; rw [hwr]; exact (pval_snoc rfl).trans (by rw [hrl]))), ?_⟩ | refine ⟨(.inr ?_), ?_⟩ | fail
     all_goals first | (exact congrArg some (congrArg (AV.int .i64) (show IntKind.i64.wrap ((i : Int) + 2) = ((i + 2 : Nat) : Int) by rw [i64_small (by omega) (by omega)]; omega).symm))
  ·
   have hge : s.size ≤ i + 1 := by have := of_decide_eq_false hc15; omega
   have hdn := hI.done hge
   refine vc_exit (x_then (x_then (x_same (n_then (vs (wr ?_))))))
   refine wN rfl rfl rfl (v43 rfl ?_)
   refine wN (v := .str (bs out)) rfl (conv_bytes (H := [pobj 5 1 (bRows out)]) (L := 0) rfl) rfl (v43 rfl ?_)
   iterate 2 refine wN rfl rfl rfl (v43 rfl ?_)
   refine we rfl (vc_ret (r_fn rfl ?_))
   show some (AV.tup [.str (bs out), .bool true]) = some (fromV s)
   rw [fromV, if_neg (by omega), hdn]
end Go.Vi
namespace Go.Vi
open Go Go.Vi Go.Proofs
attribute [local irreducible] vops vopsD vc
theorem el82 : elemAt Tryz.prog 82 = some (none, 9, 1) := by kernel_rfl
theorem zc9 : zcOf Tryz.prog 9 = some [AV.str ⟨#[]⟩] := by kernel_rfl
theorem by9 : byOf Tryz.prog 9 = some 16 := by kernel_rfl
theorem sz9 : szOf Tryz.prog 9 = some 1 := by kernel_rfl
theorem sep_ne (c : UInt8) : seq (bs [c]) ⟨#[]⟩ = false := by
 rw [seq_bl, bl_bs]; rfl
theorem g_make {P : Program} {H : Hp} {t e : TypeId} {sz by_ : Nat} {zc : List AV} {k : IntKind} {n : Nat} (he : elemAt P t = some (none, e, sz)) (hz : zcOf P e = some zc) (hb : byOf P e = some by_) (hl : zc.length = sz) (h0 : sz ≠ 0) (hb0 : by_ ≠ 0) (hs : n * by_ ≤ 140737488355328) :
 vmake P H t (.int k (n : Nat)) (.int k (n : Nat)) = some (.row true H.length 0 n, H ++ [.arr e sz (List.replicate n zc)]) := by
 simp only [vmake, he, hz, hb]
 rw [if_pos ⟨hl, h0, hb0, by omega, by omega, by rw [← Int.natCast_mul]; omega⟩]
 simp
theorem row_cut2 {P : Program} {H : Hp} {t e : TypeId} {L sz m n : Nat} {tt : Bool} {rows : List (List AV)} (hu : P.underlying t = some (.slice e)) (hs : szOf P e = some sz) (h : H[L]? = some (.arr e sz rows)) (hm : m ≤ n) :
 (vslice P H t (.row tt L 0 n) none (some (.int .i64 (m : Int))) none).map (·, H) = some (.row (tt && m == n) L 0 m, H) := by
 have hb : vbounds n none (some (.int .i64 (m : Int))) none = some (0, m, none) := by
  simp [vbounds, bnd, hm]
 simp only [vslice, hu, hs, hb, h, if_true, Option.map_some]
 simp [cutT]
theorem ret_row {H : Hp} {L sz n : Nat} {tt : Bool} {T : TypeId} {rows : List (List AV)} (hv : allVal rows = true) (h : H[L]? = some (.arr T sz rows)) (hn : n = rows.length) : ret1 H (.row tt L 0 n) = some (.list .loose rows) := by
 subst hn
 have hr : rowsOf H (.row tt L 0 rows.length) = some rows := by simp [rowsOf, h]
 show (match rowsOf H (.row tt L 0 rows.length) with
  | some rows => (mapL (mapL (retD 2 H)) rows).map (AV.list .loose)
  | none => none) = _
 rw [hr]
 show (mapL (mapL (retD 2 H)) rows).map (AV.list .loose) = _
 rw [mapL_id (fun r hr => mapL_id fun x hx => retD_val (List.all_eq_true.1 (List.all_eq_true.1 hv r hr) x hx))]
 rfl
theorem s_from {P : Program} {H : Hp} {t : TypeId} {l : List UInt8} {k1 : IntKind} {a : Nat} (hu : P.underlying t = some .string) (h1 : a ≤ l.length) : (vslice P H t (.str (bs l)) (some (.int k1 (a : Nat))) none none).map (·, H) = some (.str (bs (l.drop a)), H) := by
 have h : vbounds (bs l).size (some (.int k1 (a : Nat))) none none = some (a, l.length, none) := by
  rw [bs_size]
  simp [vbounds, bnd, h1]
 simp only [vslice, hu, h, Option.map_some]
 congr 3
 refine bl_inj ?_
 rw [bl_extract, bl_bs, bl_bs, List.take_of_length_le (by simp)]
theorem s_to {P : Program} {H : Hp} {t : TypeId} {l : List UInt8} {k1 : IntKind} {a : Nat} (hu : P.underlying t = some .string) (h1 : a ≤ l.length) : (vslice P H t (.str (bs l)) none (some (.int k1 (a : Nat))) none).map (·, H) = some (.str (bs (l.take a)), H) := by
 have h : vbounds (bs l).size none (some (.int k1 (a : Nat))) none = some (0, a, none) := by
  rw [bs_size]
  simp [vbounds, bnd, h1]
 simp only [vslice, hu, h, Option.map_some]
 congr 3
 refine bl_inj ?_
 rw [bl_extract, bl_bs, bl_bs]
 simp
theorem s_mid {P : Program} {H : Hp} {t : TypeId} {l : List UInt8} {k1 k2 : IntKind} {a z : Nat} (hu : P.underlying t = some .string) (h1 : a ≤ z) (h2 : z ≤ l.length) : (vslice P H t (.str (bs l)) (some (.int k1 (a : Nat))) (some (.int k2 (z : Nat))) none).map (·, H) = some (.str (bs ((l.drop a).take (z - a))), H) := by
 have h : vbounds (bs l).size (some (.int k1 (a : Nat))) (some (.int k2 (z : Nat))) none = some (a, z, none) := by
  rw [bs_size]
  simp [vbounds, bnd, h1, h2]
 simp only [vslice, hu, h, Option.map_some]
 congr 3
 refine bl_inj ?_
 rw [bl_extract, bl_bs, bl_bs]
theorem str_drop {l p q : List UInt8} {c : UInt8} (h : l = p ++ c :: q) : l.drop (p.length + 1) = q := by
 subst h
 rw [show p ++ c :: q = (p ++ [c]) ++ q by simp, show p.length + 1 = (p ++ [c]).length by simp, List.drop_left]
theorem str_take {l p q : List UInt8} {c : UInt8} (h : l = p ++ c :: q) : l.take p.length = p := by
 subst h
 rw [List.take_left]
set_option maxHeartbeats 4000000 in
theorem zIndexS (G : Glob) (l : List UInt8) (c : UInt8) (hlen : l.length ≤ 1000000) : Vi.Fn Tryz.prog G 139 [.str (bs l), .str (bs [c])] (.int .i64 (Lib.indexByte l c)) := by
 refine fn_body (fun _ => .iso) Tryz.func139 rfl ?_
 refine vc_norm (env' := (_ :: _ :: _ :: _ :: _ :: _ :: _ :: _ :: _ :: _ :: _ :: _ :: _ :: _ :: _ :: _ :: _ :: _ :: _ :: _ :: _ :: _ :: _ :: _ :: _ :: _ :: _ :: _ :: _ :: _ :: _ :: _ :: _ :: _ :: _ :: _ :: _ :: _ :: _ :: _ :: _ :: _ :: _ :: _ :: _ :: _ :: _ :: _ :: _ :: _ :: _ :: _ :: _ :: _ :: _ :: _ :: _ :: _ :: _ :: _ :: _ :: _ :: _ :: _ :: _ :: _ :: _ :: _ :: _ :: _ :: _ :: _ :: _ :: _ :: _ :: _ :: _ :: _ :: _ :: _ :: _ :: _ :: _ :: _ :: _ :: _ :: _ :: _ :: _ :: _ :: _ :: _ :: _ :: _ :: _ :: _ :: _ :: _ :: _ :: _ :: _ :: _ :: _ :: _ :: _ :: _ :: _ :: _ :: _ :: _ :: _ :: _ :: _ :: _ :: _ :: _ :: _ :: _ :: _ :: _ :: _ :: _ :: _ :: _ :: _ :: _ :: _ :: _ :: _ :: _ :: _ :: _ :: _ :: _ :: _ :: _ :: _ :: _ :: _ :: _ :: _ :: _ :: _ :: [])) (H' := []) rfl rfl ?_
 refine vs (wr ?_)
 refine wN rfl rfl rfl (v143 rfl ?_)
 refine we rfl (vs (wr ?_))
 iterate 3 refine wN rfl rfl rfl (v143 rfl ?_)
 refine we rfl (vs (vc_block (vs (wr ?_))))
 iterate 3 refine wN rfl rfl rfl (v143 rfl ?_)
 refine w_split 19 rfl (fun hg19 => ?_) (fun hg19 => ?_)
 ·
  rw [bs_size] at hg19
  simp at hg19
 ·
  refine v143 rfl ?_
  iterate 3 refine wN (wanted_t 19 (by kernel_rfl) rfl) rfl rfl (v143 rfl ?_)
  iterate 2 refine wN rfl rfl rfl (v143 rfl ?_)
  refine we rfl ?_
  refine vc_cond rfl (fun hc16 => ?_) (fun hc16 => ?_)
  ·
   have he : l = [c] := by have h := seq_eq.1 hc16; have := congrArg bl h; rw [bl_bs, bl_bs] at this; exact this.symm
   refine vs (wr ?_)
   refine wN rfl rfl rfl (v143 rfl ?_)
   refine we rfl (vc_ret (r_block (r_then (r_fn rfl ?_))))
   rw [he]
   show some (AV.int .i64 0) = some (AV.int .i64 (Lib.indexByte [c] c))
   simp [Lib.indexByte]
  ·
   refine vs (wr ?_)
   iterate 3 refine wN rfl rfl rfl (v143 rfl ?_)
   refine we rfl ?_
   refine vc_cond rfl (fun hc24 => ?_) (fun hc24 => ?_)
   ·
    refine vs (wr ?_)
    iterate 2 refine wN rfl rfl rfl (v143 rfl ?_)
    refine wN (v := .int .u8 (c.toNat : Nat)) rfl (g_str (n := 0) (k := .i64) (s := bs [c]) Tryz.underlying9 (by omega) rfl) rfl (v143 rfl ?_)
    refine w_callI (env' := _) rfl rfl rfl (by kernel_rfl) rfl (by repeat' first | exact IsL.lend ‹_› | exact IsL.lend0 ‹_› | refine mapL_cons ?_ ?_ | refine lend_agg ?_ | rfl) (zIB0 G (bs l) c) rfl (v143 rfl ?_)
    refine wN rfl rfl rfl (v143 rfl ?_)
    refine we rfl (vc_ret (r_block (r_then (r_fn rfl ?_))))
    rw [bl_bs]
    rfl
   ·
    rw [bs_size] at hc24
    simp at hc24
set_option maxHeartbeats 4000000 in
theorem zIndexT (G : Glob) (l : List UInt8) (c : UInt8) (hlen : l.length ≤ 1000000) : Vi.Fn Tryz.prog G 113 [.str (bs l), .str (bs [c])] (.int .i64 (Lib.indexByte l c)) := by
 refine fn_body (fun _ => .iso) Tryz.func113 rfl ?_
 refine vc_norm (env' := [_, _, _, _, _, _, _, _]) (H' := []) rfl rfl ?_
 refine vs (wr ?_)
 refine wN rfl rfl rfl (v8 rfl ?_)
 refine we rfl (vs (wr ?_))
 iterate 2 refine wN rfl rfl rfl (v8 rfl ?_)
 refine w_callI (env' := _) rfl rfl rfl (by kernel_rfl) rfl (by repeat' first | exact IsL.lend ‹_› | exact IsL.lend0 ‹_› | refine mapL_cons ?_ ?_ | refine lend_agg ?_ | rfl) (zIndexS G l c hlen) rfl (v8 rfl ?_)
 refine wN rfl rfl rfl (v8 rfl ?_)
 refine we rfl (vc_ret (r_fn rfl ?_))
 rfl
set_option maxHeartbeats 4000000 in
theorem zCount (G : Glob) (l : List UInt8) (c : UInt8) (hlen : l.length ≤ 1000000) : Vi.Fn Tryz.prog G 112 [.str (bs l), .str (bs [c])] (.int .i64 (l.count c : Nat)) := by
 refine fn_body (fun _ => .iso) Tryz.func112 rfl ?_
 refine vc_norm (env' := (_ :: _ :: _ :: _ :: _ :: _ :: _ :: _ :: _ :: _ :: _ :: _ :: _ :: _ :: _ :: _ :: _ :: _ :: _ :: _ :: _ :: _ :: _ :: _ :: _ :: _ :: _ :: _ :: _ :: _ :: _ :: _ :: _ :: _ :: [])) (H' := []) rfl rfl ?_
 refine vs (wr ?_)
 refine wN rfl rfl rfl (v34 rfl ?_)
 refine we rfl (vs (vs (wr ?_)))
 iterate 3 refine wN rfl rfl rfl (v34 rfl ?_)
 refine we rfl ?_
 refine vc_cond rfl (fun hc9 => ?_) (fun hc9 => ?_)
 ·
  rw [bs_size] at hc9
  simp at hc9
 ·
  refine vc_skip (n_then (vs (vs (wr ?_))))
  iterate 3 refine wN rfl rfl rfl (v34 rfl ?_)
  refine we rfl ?_
  refine vc_cond rfl (fun hc15 => ?_) (fun hc15 => ?_)
  ·
   refine vs (wr ?_)
   iterate 2 refine wN rfl rfl rfl (v34 rfl ?_)
   refine wN (v := .int .u8 (c.toNat : Nat)) rfl (g_str (n := 0) (k := .i64) (s := bs [c]) Tryz.underlying9 (by omega) rfl) rfl (v34 rfl ?_)
   refine w_ext (v := .int .i64 (l.count c : Nat)) (env' := _) rfl rfl rfl (by kernel_rfl) (by have h := ext_count (P := Tryz.prog) (g := 138) (by kernel_rfl) (bs l) c; rw [bl_bs] at h; exact h) rfl (v34 rfl ?_)
   refine wN rfl rfl rfl (v34 rfl ?_)
   refine we rfl (vc_ret (r_then (r_fn rfl ?_)))
   rfl
  ·
   rw [bs_size] at hc15
   simp at hc15
set_option maxHeartbeats 4000000 in
theorem zGenSplit (G : Glob) (l : List UInt8) (c : UInt8) (hlen : l.length ≤ 1000000) : Vi.Fn Tryz.prog G 79 [.str (bs l), .str (bs [c]), .int .i64 0, .int .i64 (-1)] (.list .loose (sRows (splitL c l))) := by
 have hcl : l.count c ≤ l.length := List.count_le_length
 refine fn_body (fun _ => .iso) Tryz.func79 rfl ?_
 refine vc_norm (env' := (_ :: _ :: _ :: _ :: _ :: _ :: _ :: _ :: _ :: _ :: _ :: _ :: _ :: _ :: _ :: _ :: _ :: _ :: _ :: _ :: _ :: _ :: _ :: _ :: _ :: _ :: _ :: _ :: _ :: _ :: _ :: _ :: _ :: _ :: _ :: _ :: _ :: _ :: _ :: _ :: _ :: _ :: _ :: _ :: _ :: _ :: _ :: _ :: _ :: _ :: _ :: _ :: _ :: _ :: _ :: _ :: _ :: _ :: _ :: _ :: _ :: _ :: _ :: _ :: _ :: _ :: [])) (H' := []) rfl rfl ?_
 refine vs (wr ?_)
 refine wN rfl rfl rfl (v66 rfl ?_)
 refine we rfl (vs (vs (wr ?_)))
 iterate 2 refine wN rfl rfl rfl (v66 rfl ?_)
 refine we rfl ?_
 refine vc_cond rfl (fun hc13 => ?_) (fun hc13 => ?_)
 ·
  exact absurd hc13 (by decide)
 ·
  refine vc_skip (n_then (vs (vs (wr ?_))))
  iterate 2 refine wN rfl rfl rfl (v66 rfl ?_)
  refine we rfl ?_
  refine vc_cond rfl (fun hc15 => ?_) (fun hc15 => ?_)
  ·
   exact absurd hc15 (by rw [sep_ne]; simp)
  ·
   refine vc_skip (n_then (vs (vs (wr ?_))))
   iterate 2 refine wN rfl rfl rfl (v66 rfl ?_)
   refine we rfl ?_
   refine vc_cond rfl (fun hc20 => ?_) (fun hc20 => ?_)
   ·
    refine wr ?_
    iterate 2 refine wN rfl rfl rfl (v66 rfl ?_)
    refine w_callI (env' := _) rfl rfl rfl (by kernel_rfl) rfl (by repeat' first | exact IsL.lend ‹_› | exact IsL.lend0 ‹_› | refine mapL_cons ?_ ?_ | refine lend_agg ?_ | rfl) (zCount G l c hlen) rfl (v66 rfl ?_)
    refine wN (v := .int .i64 ((l.count c + 1 : Nat) : Int)) rfl (int_eq (by rw [i64_small (by omega) (by omega)]; omega)) rfl (v66 rfl ?_)
    refine wN rfl rfl rfl (v66 rfl ?_)
    refine we rfl (vs (wr ?_))
    iterate 3 refine wN rfl rfl rfl (v66 rfl ?_)
    refine wN (v := .int .i64 ((l.length + 1 : Nat) : Int)) rfl (int_eq (by rw [bs_size, i64_small (by omega) (by omega)]; omega)) rfl (v66 rfl ?_)
    refine wN (v := .int .i64 ((l.count c + 1 : Nat) : Int)) rfl (int_eq (by simp only [Bool.false_eq_true, if_false]; exact if_neg (by omega))) rfl (v66 rfl ?_)
    refine wN rfl rfl rfl (v66 rfl ?_)
    refine we rfl (vs (wr ?_))
    refine wN rfl rfl rfl (v66 rfl ?_)
    refine w_opH (v := .row true 0 0 (l.count c + 1)) (env' := _) (H2 := [VO.arr 9 1 (List.replicate (l.count c + 1) [AV.str ⟨#[]⟩])]) rfl (g_make (k := .i64) (n := l.count c + 1) (by_ := 16) el82 zc9 by9 rfl (by decide) (by decide) (by omega)) rfl (rfl) (fun _ h => h) (v66 rfl ?_)
    refine wN rfl rfl rfl (v66 rfl ?_)
    refine we rfl (vs (wr ?_))
    refine wN rfl rfl rfl (v66 rfl ?_)
    refine wN (v := .int .i64 (l.count c : Nat)) rfl (int_eq (by rw [i64_small (by omega) (by omega)]; omega)) rfl (v66 rfl ?_)
    refine wN rfl rfl rfl (v66 rfl ?_)
    refine we rfl (vs (wr ?_))
    refine wN rfl rfl rfl (v66 rfl ?_)
    refine we rfl (vs (vc_block ?_))
    refine vc_loopX (α := { a : List (List UInt8) × List UInt8 // SInv c l a.1 a.2 }) (fun a => ([some (.str (bs a.1.2))] ++ (rnone 9 ++ ([some (.int .i64 (a.1.1.length : Nat)), some .undef] ++ (rnone 22 ++ (rundef 24 ++ (rnone 8))))))) (fun a => [VO.arr 9 1 (sRows a.1.1 ++ List.replicate (l.count c + 1 - a.1.1.length) [AV.str ⟨#[]⟩])]) (fun a => l.count c - a.1.1.length) ⟨([], l), sinv0 c l⟩ (by repeat' first | exact trivial | refine ⟨.inr rfl, ?_⟩ | refine ⟨.inl rfl, ?_⟩ | fail) rfl ?_
    rintro ⟨⟨ds, r⟩, hI⟩ Y0 hY0
    refine vc_norm (env' := ((.str (bs r)) :: _ :: _ :: _ :: _ :: _ :: _ :: _ :: _ :: _ :: (.int .i64 (ds.length : Nat)) :: _ :: _ :: _ :: _ :: _ :: _ :: _ :: _ :: _ :: _ :: _ :: _ :: _ :: _ :: _ :: _ :: _ :: _ :: _ :: _ :: _ :: _ :: _ :: _ :: _ :: _ :: _ :: _ :: _ :: _ :: _ :: _ :: _ :: _ :: _ :: _ :: _ :: _ :: _ :: _ :: _ :: _ :: _ :: _ :: _ :: _ :: _ :: _ :: _ :: _ :: _ :: _ :: _ :: _ :: _ :: [])) (H' := [VO.arr 9 1 (sRows ds ++ List.replicate (l.count c + 1 - ds.length) [AV.str ⟨#[]⟩])]) rfl rfl ?_
    replace hI : SInv c l ds r := hI
    refine vs (vs (wr ?_))
    iterate 3 refine wN rfl rfl rfl (v66 rfl ?_)
    refine we rfl ?_
    refine vc_cond rfl (fun hc36 => ?_) (fun hc36 => ?_)
    ·
     have hlt : ds.length < l.count c := by have := of_decide_eq_true hc36; omega
     have hic := hI.cnt
     have hle := hI.le
     obtain ⟨p, q, hpq, hp⟩ := split_mem (c := c) (l := r) (List.count_pos_iff.1 (by omega))
     have hix : Lib.indexByte r c = (p.length : Int) := by rw [hpq]; exact index_app hp
     have hrl : r.length = p.length + 1 + q.length := by rw [hpq]; simp; omega
     have hidx := zIndexT G r c (by omega)
     rw [hix] at hidx
     obtain ⟨n, hn⟩ : ∃ n, l.count c + 1 - ds.length = n + 1 := ⟨l.count c - ds.length, by omega⟩
     have hn2 : l.count c + 1 - (ds ++ [p]).length = n := by simp; omega
     have hrow : (sRows ds ++ List.replicate (l.count c + 1 - ds.length) [AV.str ⟨#[]⟩])[ds.length]? = some [AV.str ⟨#[]⟩] := by rw [List.getElem?_append_right (by rw [sRows_len]; omega), sRows_len, hn, Nat.sub_self]; rfl
     have hst : (sRows ds ++ List.replicate (l.count c + 1 - ds.length) [AV.str ⟨#[]⟩]).set ds.length [.str (bs p)] = sRows (ds ++ [p]) ++ List.replicate (l.count c + 1 - (ds ++ [p]).length) [AV.str ⟨#[]⟩] := by rw [hn, hn2]; exact srow_set
     refine vc_skip (n_then (vc_block (vs (wr ?_))))
     iterate 2 refine wN rfl rfl rfl (v66 rfl ?_)
     refine w_callI (env' := _) rfl rfl rfl (by kernel_rfl) rfl (by repeat' first | exact IsL.lend ‹_› | exact IsL.lend0 ‹_› | refine mapL_cons ?_ ?_ | refine lend_agg ?_ | rfl) (hidx) rfl (v66 rfl ?_)
     refine wN rfl rfl rfl (v66 rfl ?_)
     refine we rfl (vs (vs (wr ?_)))
     iterate 2 refine wN rfl rfl rfl (v66 rfl ?_)
     refine we rfl ?_
     refine vc_cond rfl (fun hc41 => ?_) (fun hc41 => ?_)
     ·
      exact absurd hc41 (by simp)
     ·
      refine vc_skip (n_then (vs (wr ?_)))
      iterate 5 refine wN rfl rfl rfl (v66 rfl ?_)
      refine wN (v := .int .i64 (p.length : Nat)) rfl (int_eq (by rw [i64_small (by omega) (by omega)]; omega)) rfl (v66 rfl ?_)
      refine wN (v := .str (bs p)) rfl (by have h := s_to (P := Tryz.prog) (H := [VO.arr 9 1 (sRows ds ++ List.replicate (l.count c + 1 - ds.length) [AV.str ⟨#[]⟩])]) (t := 9) (l := r) (k1 := .i64) (a := p.length) Tryz.underlying9 (by omega); rw [str_take hpq] at h; exact h) rfl (v66 rfl ?_)
      refine wN (v := .ptr 0 ds.length 0) rfl (g_indexN (H := [VO.arr 9 1 (sRows ds ++ List.replicate (l.count c + 1 - ds.length) [AV.str ⟨#[]⟩])]) el82 rfl (by omega) (by omega) (by omega)) rfl (v66 rfl ?_)
      refine w_op0N (H2 := [VO.arr 9 1 (sRows (ds ++ [p]) ++ List.replicate (l.count c + 1 - (ds ++ [p]).length) [AV.str ⟨#[]⟩])]) rfl (g_store (H := [VO.arr 9 1 (sRows ds ++ List.replicate (l.count c + 1 - ds.length) [AV.str ⟨#[]⟩])]) (l := 0) rfl hrow rfl sz9 ⟨rfl, by decide, by decide⟩) (by rw [← hst]; rfl) (fun _ h => h) ?_
      refine we rfl (vs (wr ?_))
      iterate 4 refine wN rfl rfl rfl (v66 rfl ?_)
      refine wN (v := .int .i64 ((p.length + 1 : Nat) : Int)) rfl (int_eq (by rw [bs_size]; simp; rw [i64_small (by omega) (by omega)])) rfl (v66 rfl ?_)
      refine wN (v := .str (bs q)) rfl (by have h := s_from (P := Tryz.prog) (H := [VO.arr 9 1 (sRows (ds ++ [p]) ++ List.replicate (l.count c + 1 - (ds ++ [p]).length) [AV.str ⟨#[]⟩])]) (t := 9) (l := r) (k1 := .i64) (a := p.length + 1) Tryz.underlying9 (by omega); rw [str_drop hpq] at h; exact h) rfl (v66 rfl ?_)
      refine wN rfl rfl rfl (v66 rfl ?_)
      refine we rfl (wr ?_)
      iterate 3 refine wN rfl rfl rfl (v66 rfl ?_)
      refine w_endB rfl (n_then ?_)
      refine hY0 ⟨(ds ++ [p], q), (hpq ▸ hI : SInv c l ds (p ++ c :: q)).next hp⟩ (by have := hI.cnt; simp; omega) _ _ ?_ rfl
      repeat' first | exact trivial | refine ⟨.inr rfl, ?_⟩ | refine ⟨.inl rfl, ?_⟩ | refine ⟨.inl ?_, ?_⟩ | fail
      all_goals first | exact rfl | (show AV.int .i64 ((ds ++ [p]).length : Nat) = _; rw [List.length_append]; exact (int_succ (by omega)).symm)
    ·
     have hge : l.count c ≤ ds.length := by have := of_decide_eq_false hc36; omega
     obtain ⟨hde, hsp⟩ := hI.done hge
     have hrow : (sRows ds ++ List.replicate (l.count c + 1 - ds.length) [AV.str ⟨#[]⟩])[ds.length]? = some [AV.str ⟨#[]⟩] := by rw [List.getElem?_append_right (by rw [sRows_len]; omega), sRows_len, show l.count c + 1 - ds.length = 1 by omega, Nat.sub_self]; rfl
     have hst : (sRows ds ++ List.replicate (l.count c + 1 - ds.length) [AV.str ⟨#[]⟩]).set ds.length [.str (bs r)] = sRows (splitL c l) := by rw [show l.count c + 1 - ds.length = 0 + 1 by omega, srow_set, hsp]; simp
     have hsl : (sRows (splitL c l)).length = ds.length + 1 := by rw [sRows_len, hsp]; simp
     refine vc_exit (x_then (x_then (x_same (n_then (vs (wr ?_))))))
     iterate 3 refine wN rfl rfl rfl (v66 rfl ?_)
     refine wN (v := .ptr 0 ds.length 0) rfl (g_indexN (H := [VO.arr 9 1 (sRows ds ++ List.replicate (l.count c + 1 - ds.length) [AV.str ⟨#[]⟩])]) el82 rfl (by omega) (by omega) (by omega)) rfl (v66 rfl ?_)
     refine w_op0N (H2 := [VO.arr 9 1 (sRows (splitL c l))]) rfl (g_store (H := [VO.arr 9 1 (sRows ds ++ List.replicate (l.count c + 1 - ds.length) [AV.str ⟨#[]⟩])]) (l := 0) rfl hrow rfl sz9 ⟨rfl, by decide, by decide⟩) (by rw [← hst]; rfl) (fun _ h => h) ?_
     refine we rfl (vs (wr ?_))
     iterate 2 refine wN rfl rfl rfl (v66 rfl ?_)
     refine wN (v := .int .i64 ((ds.length + 1 : Nat) : Int)) rfl (int_eq (by rw [i64_small (by omega) (by omega)]; omega)) rfl (v66 rfl ?_)
     refine wN (v := .row (true && (ds.length + 1 == l.count c + 1)) 0 0 (ds.length + 1)) rfl (row_cut2 (H := [VO.arr 9 1 (sRows (splitL c l))]) (tt := true) Tryz.underlying82 sz9 rfl (by omega)) rfl (v66 rfl ?_)
     refine wN rfl rfl rfl (v66 rfl ?_)
     refine we rfl (vc_ret (r_fn rfl ?_))
     exact ret_row sRows_val rfl hsl.symm
   ·
    exact absurd hc20 (by decide)
set_option maxHeartbeats 4000000 in
theorem zSplit (G : Glob) (l : List UInt8) (c : UInt8) (hlen : l.length ≤ 1000000) : Vi.Fn Tryz.prog G 44 [.str (bs l), .str (bs [c])] (.list .loose (sRows (splitL c l))) := by
 refine fn_body (fun _ => .iso) Tryz.func44 rfl ?_
 refine vc_norm (env' := [_, _, _, _, _, _, _, _]) (H' := []) rfl rfl ?_
 refine vs (wr ?_)
 refine wN rfl rfl rfl (v8 rfl ?_)
 refine we rfl (vs (wr ?_))
 iterate 2 refine wN rfl rfl rfl (v8 rfl ?_)
 refine w_callI (env' := _) rfl rfl rfl (by kernel_rfl) rfl (by repeat' first | exact IsL.lend ‹_› | exact IsL.lend0 ‹_› | refine mapL_cons ?_ ?_ | refine lend_agg ?_ | rfl) (zGenSplit G l c hlen) rfl (v8 rfl ?_)
 refine wN rfl rfl rfl (v8 rfl ?_)
 refine we rfl (vc_ret (r_fn rfl ?_))
 rfl
set_option maxHeartbeats 4000000 in
theorem zHasSuffix (G : Glob) (l : List UInt8) (c : UInt8) (hlen : l.length ≤ 1000000) : Vi.Fn Tryz.prog G 114 [.str (bs l), .str (bs [c])] (.bool (hasL c l)) := by
 refine fn_body (fun _ => .iso) Tryz.func114 rfl ?_
 refine vc_norm (env' := [_, _, _, _, _, _, _, _, _, _, _, _, _, _, _, _, _, _, _, _, _]) (H' := []) rfl rfl ?_
 refine vs (wr ?_)
 refine wN rfl rfl rfl (v21 rfl ?_)
 refine we rfl (vs (wr ?_))
 iterate 6 refine wN rfl rfl rfl (v21 rfl ?_)
 refine w_split 10 rfl (fun hg10 => ?_) (fun hg10 => ?_)
 ·
  have h1 : 1 ≤ l.length := by have := of_decide_eq_true hg10; rw [bs_size, bs_size] at this; simp at this; omega
  refine v21 rfl ?_
  iterate 5 refine wN (wanted_t 10 (by kernel_rfl) rfl) rfl rfl (v21 rfl ?_)
  refine wN (v := .int .i64 ((l.length - 1 : Nat) : Int)) (wanted_t 10 (by kernel_rfl) rfl) (int_eq (by rw [bs_size, bs_size, List.length_singleton, i64_small (by omega) (by omega)]; omega)) rfl (v21 rfl ?_)
  refine wN (v := .str (bs (l.drop (l.length - 1)))) (wanted_t 10 (by kernel_rfl) rfl) (s_from Tryz.underlying9 (by omega)) rfl (v21 rfl ?_)
  iterate 2 refine wN (wanted_t 10 (by kernel_rfl) rfl) rfl rfl (v21 rfl ?_)
  iterate 2 refine wN rfl rfl rfl (v21 rfl ?_)
  refine we rfl (vc_ret (r_fn rfl ?_))
  show some (AV.bool (seq (bs (l.drop (l.length - 1))) (bs [c]))) = some (AV.bool (hasL c l))
  rw [seq_bl, bl_bs, bl_bs, hasL_drop h1]
 ·
  have h1 : l = [] := by have := of_decide_eq_false hg10; rw [bs_size, bs_size] at this; simp at this; exact List.eq_nil_of_length_eq_zero (by omega)
  refine v21 rfl ?_
  iterate 9 refine wS (wanted_f 10 (by kernel_rfl) rfl) (v21 rfl ?_)
  iterate 2 refine wN rfl rfl rfl (v21 rfl ?_)
  refine we rfl (vc_ret (r_fn rfl ?_))
  rw [h1]
  rfl
set_option maxHeartbeats 4000000 in
theorem zTrim0 (G : Glob) (l : List UInt8) (c : UInt8) (hlen : l.length ≤ 1000000) : Vi.Fn Tryz.prog G 80 [.str (bs l), .str (bs [c])] (.str (bs (trimL c l))) := by
 refine fn_body (fun _ => .iso) Tryz.func80 rfl ?_
 refine vc_norm (env' := [_, _, _, _, _, _, _, _, _, _, _, _, _, _, _, _]) (H' := []) rfl rfl ?_
 refine vs (wr ?_)
 refine wN rfl rfl rfl (v16 rfl ?_)
 refine we rfl (vs (vs (wr ?_)))
 iterate 2 refine wN rfl rfl rfl (v16 rfl ?_)
 refine w_callI (env' := _) rfl rfl rfl (by kernel_rfl) rfl (by repeat' first | exact IsL.lend ‹_› | exact IsL.lend0 ‹_› | refine mapL_cons ?_ ?_ | refine lend_agg ?_ | rfl) (zHasSuffix G l c hlen) rfl (v16 rfl ?_)
 refine we rfl ?_
 refine vc_cond rfl (fun hc7 => ?_) (fun hc7 => ?_)
 ·
  have h1 : 1 ≤ l.length := by rcases l with _ | ⟨x, r⟩; simp [hasL] at hc7; simp
  refine vs (wr ?_)
  iterate 5 refine wN rfl rfl rfl (v16 rfl ?_)
  refine wN (v := .int .i64 ((l.length - 1 : Nat) : Int)) rfl (int_eq (by rw [bs_size, bs_size, List.length_singleton, i64_small (by omega) (by omega)]; omega)) rfl (v16 rfl ?_)
  refine wN (v := .str (bs (l.take (l.length - 1)))) rfl (s_to Tryz.underlying9 (by omega)) rfl (v16 rfl ?_)
  refine wN rfl rfl rfl (v16 rfl ?_)
  refine we rfl (vc_ret (r_then (r_fn rfl ?_)))
  rw [trimL, if_pos hc7, List.dropLast_eq_take]
  rfl
 ·
  refine vc_skip (n_then (vs (wr ?_)))
  iterate 2 refine wN rfl rfl rfl (v16 rfl ?_)
  refine we rfl (vc_ret (r_fn rfl ?_))
  rw [trimL, if_neg (by rw [hc7]; simp)]
  rfl
set_option maxHeartbeats 4000000 in
theorem zTrim (G : Glob) (l : List UInt8) (c : UInt8) (hlen : l.length ≤ 1000000) : Vi.Fn Tryz.prog G 45 [.str (bs l), .str (bs [c])] (.str (bs (trimL c l))) := by
 refine fn_body (fun _ => .iso) Tryz.func45 rfl ?_
 refine vc_norm (env' := [_, _, _, _, _, _, _, _]) (H' := []) rfl rfl ?_
 refine vs (wr ?_)
 refine wN rfl rfl rfl (v8 rfl ?_)
 refine we rfl (vs (wr ?_))
 iterate 2 refine wN rfl rfl rfl (v8 rfl ?_)
 refine w_callI (env' := _) rfl rfl rfl (by kernel_rfl) rfl (by repeat' first | exact IsL.lend ‹_› | exact IsL.lend0 ‹_› | refine mapL_cons ?_ ?_ | refine lend_agg ?_ | rfl) (zTrim0 G l c hlen) rfl (v8 rfl ?_)
 refine wN rfl rfl rfl (v8 rfl ?_)
 refine we rfl (vc_ret (r_fn rfl ?_))
 rfl
set_option maxHeartbeats 4000000 in
theorem zCut (G : Glob) (l : List UInt8) (c : UInt8) (hlen : l.length ≤ 1000000) : Vi.Fn Tryz.prog G 49 [.str (bs l), .int .u8 (c.toNat : Nat)] (.list .loose (sRows (splitL c l))) := by
 refine fn_body (fun _ => .iso) Tryz.func49 rfl ?_
 refine vc_norm (env' := (_ :: _ :: _ :: _ :: _ :: _ :: _ :: _ :: _ :: _ :: _ :: _ :: _ :: _ :: _ :: _ :: _ :: _ :: _ :: _ :: _ :: _ :: _ :: _ :: _ :: _ :: _ :: _ :: _ :: _ :: _ :: _ :: _ :: _ :: [])) (H' := []) rfl rfl ?_
 refine vs (wr ?_)
 refine wN rfl rfl rfl (v34 rfl ?_)
 refine we rfl (vs (wr ?_))
 refine wN rfl rfl rfl (v34 rfl ?_)
 refine we rfl (vs (wr ?_))
 refine wN rfl rfl rfl (v34 rfl ?_)
 refine we rfl (vs (vs (wr ?_)))
 refine wN rfl rfl rfl (v34 rfl ?_)
 refine we rfl (vc_block ?_)
 refine vc_loopN (α := { a : Nat × Nat × List (List UInt8) // CInv2 c l a.1 a.2.1 a.2.2 }) (fun a => (rnone 5 ++ ([some (pval 0 (sRows a.1.2.2)), some (.int .i64 (a.1.2.1 : Nat)), some (.int .i64 (a.1.1 : Nat))] ++ (rundef 20 ++ (rnone 6))))) (fun a => [pobj 9 1 (sRows a.1.2.2)]) (fun a => l.length - a.1.1) ⟨(0, 0, []), cinv20 c l⟩ [0] (by repeat' first | exact trivial | refine ⟨.inl rfl, ?_⟩ | refine ⟨.inr rfl, ?_⟩ | refine ⟨.inr (IsL.ren1 ‹_›), ?_⟩ | fail) (by decide) (fun _ h => absurd h (by omega)) ⟨.inl rfl, trivial⟩ (fun a => ⟨Nat.zero_le _, (by repeat' first | exact trivial | exact .inr ⟨_, rfl, rfl⟩ | exact IsL.valN ‹_› | exact (pval_N rfl) | refine ⟨?_, ?_⟩ | fail), ⟨pobj_N sRows_val, trivial⟩⟩) ?_
 rintro ⟨⟨i, k, ds⟩, hI⟩ Y0 hY0
 refine vc_norm (env' := (_ :: _ :: _ :: _ :: _ :: (pval 0 (sRows ds)) :: (.int .i64 (k : Int)) :: (.int .i64 (i : Int)) :: _ :: _ :: _ :: _ :: _ :: _ :: _ :: _ :: _ :: _ :: _ :: _ :: _ :: _ :: _ :: _ :: _ :: _ :: _ :: _ :: _ :: _ :: _ :: _ :: _ :: _ :: [])) (H' := [pobj 9 1 (sRows ds)]) rfl rfl ?_
 replace hI : CInv2 c l i k ds := hI
 have hI1 := hI.le
 have hI2 := hI.le2
 have hI3 := hI.len
 have hrl : (sRows ds).length = ds.length := sRows_len _
 refine vs (vs (wr ?_))
 iterate 4 refine wN rfl rfl rfl (v34 rfl ?_)
 refine we rfl ?_
 refine vc_cond rfl (fun hc11 => ?_) (fun hc11 => ?_)
 ·
  have hlt : i < l.length := by have := of_decide_eq_true hc11; rw [bs_size] at this; omega
  obtain ⟨x, hxl⟩ : ∃ x, l[i]? = some x := ⟨_, List.getElem?_eq_getElem hlt⟩
  have hx : (bs l)[((i : Nat) : Int).toNat]? = some x := by rw [get_bl, bl_bs]; exact hxl
  refine vc_skip (n_then (vs (vc_block (vs (wr ?_)))))
  iterate 2 refine wN rfl rfl rfl (v34 rfl ?_)
  refine wN (v := .int .u8 (x.toNat : Nat)) rfl (g_str Tryz.underlying9 (by omega) hx) rfl (v34 rfl ?_)
  iterate 2 refine wN rfl rfl rfl (v34 rfl ?_)
  refine we rfl ?_
  refine vc_cond rfl (fun hc18 => ?_) (fun hc18 => ?_)
  ·
   obtain rfl : x = c := UInt8.toNat_inj.1 (by have := eq_of_beq hc18; omega)
   refine vs (wr ?_)
   iterate 4 refine wN rfl rfl rfl (v34 rfl ?_)
   refine wN (v := .str (bs ((l.drop k).take (i - k)))) rfl (s_mid Tryz.underlying9 (by omega) (by omega)) rfl (v34 rfl ?_)
   refine wN rfl rfl rfl (v34 rfl ?_)
   refine w_opH (v := .row false 1 0 (ds.length + 1)) (env' := _) (H2 := [.dead, .arr 9 1 (sRows ds ++ [[.str (bs ((l.drop k).take (i - k)))]])]) rfl ((acc_append (H := [pobj 9 1 (sRows ds)]) (pgs := sRows ds) (news := [[.str (bs ((l.drop k).take (i - k)))]]) (x := .list .tight [[.str (bs ((l.drop k).take (i - k)))]]) (L := 0) (sz := 1) rfl el82 Tryz.underlying82 rfl zc9 by9 rfl rfl (by decide) (by decide) rfl rfl (by simp) rfl (by rw [hrl]; simp; omega)).trans (by rw [hrl]; rfl)) rfl (rfl) (fun _ h => h) (v34 rfl ?_)
   refine wN rfl rfl rfl (v34 rfl ?_)
   refine we rfl (wr ?_)
   refine wN rfl rfl rfl (v34 rfl ?_)
   refine wN (v := .int .i64 ((i + 1 : Nat) : Int)) rfl (int_eq (by rw [i64_small (by omega) (by omega)]; omega)) rfl (v34 rfl ?_)
   refine wN rfl rfl rfl (v34 rfl ?_)
   refine w_endB rfl (n_then (wr ?_))
   iterate 3 refine wN rfl rfl rfl (v34 rfl ?_)
   refine we rfl ?_
   refine hY0 ⟨(i + 1, i + 1, ds ++ [(l.drop k).take (i - k)]), hI.cut hxl⟩ (by simp only; omega) _ _ [1] ?_ (by decide) (fun _ h => absurd h (by omega)) ⟨.inr ⟨_, rfl, by show renO _ (pobj 9 1 (sRows (ds ++ [(l.drop k).take (i - k)]))) = _; rw [sRows_app]; exact pobj_snoc (by rw [show [[AV.str (bs ((l.drop k).take (i - k)))]] = sRows [(l.drop k).take (i - k)] from rfl, ← sRows_app]; exact sRows_val)⟩, trivial⟩
   repeat' first | exact trivial | refine ⟨.inl rfl, ?_⟩ | refine ⟨.inr rfl, ?_⟩ | refine ⟨.inr (IsL.ren1 ‹_›), ?_⟩ | refine ⟨(.inr (by show Vi.ren1 _ (pval 0 (sRows (ds ++ [(l.drop k).take (i - k)]))) = _; rw [sRows_app]; exact (pval_snoc rfl).trans (by rw [hrl]))), ?_⟩ | refine ⟨(.inr ?_), ?_⟩ | fail
   all_goals first | exact congrArg some (int_succ (by omega)).symm
  ·
   have hxn : x ≠ c := fun e => by rw [e] at hc18; simp at hc18
   refine vc_skip (n_block (n_then (wr ?_)))
   iterate 3 refine wN rfl rfl rfl (v34 rfl ?_)
   refine we rfl ?_
   refine hY0 ⟨(i + 1, k, ds), hI.skip hxl hxn⟩ (by simp only; omega) _ _ [0] ?_ (by decide) (fun _ h => absurd h (by omega)) ⟨pobj_ren (H2 := [pobj 9 1 (sRows ds)]) sRows_val rfl, trivial⟩
   repeat' first | exact trivial | refine ⟨.inl rfl, ?_⟩ | refine ⟨.inr rfl, ?_⟩ | refine ⟨.inr (IsL.ren1 ‹_›), ?_⟩ | refine ⟨(.inr (pval_ren rfl)), ?_⟩ | refine ⟨(.inr ?_), ?_⟩ | fail
   all_goals first | exact congrArg some (int_succ (by omega)).symm
 ·
  have hge : l.length ≤ i := by have := of_decide_eq_false hc11; rw [bs_size] at this; omega
  have hdn := hI.done hge
  refine vc_exit (x_then (x_then (x_same (n_then (vs (wr ?_))))))
  iterate 3 refine wN rfl rfl rfl (v34 rfl ?_)
  refine wN (v := .str (bs (l.drop k))) rfl (s_from Tryz.underlying9 (by omega)) rfl (v34 rfl ?_)
  refine wN rfl rfl rfl (v34 rfl ?_)
  refine w_opH (v := .row false 1 0 (ds.length + 1)) (env' := _) (H2 := [.dead, .arr 9 1 (sRows ds ++ [[.str (bs (l.drop k))]])]) rfl ((acc_append (H := [pobj 9 1 (sRows ds)]) (pgs := sRows ds) (news := [[.str (bs (l.drop k))]]) (x := .list .tight [[.str (bs (l.drop k))]]) (L := 0) (sz := 1) rfl el82 Tryz.underlying82 rfl zc9 by9 rfl rfl (by decide) (by decide) rfl rfl (by simp) rfl (by rw [hrl]; simp; omega)).trans (by rw [hrl]; rfl)) rfl (rfl) (fun _ h => h) (v34 rfl ?_)
  refine wN rfl rfl rfl (v34 rfl ?_)
  refine we rfl (vc_ret (r_fn rfl ?_))
  rw [hdn, sRows_app]
  exact ret_row (T := 9) (sz := 1) (by rw [← sRows_app]; exact sRows_val) rfl (by rw [List.length_append, hrl]; rfl)
end Go.Vi
namespace Go.Vi
open Go Go.Vi Go.Proofs
attribute [local irreducible] vops vopsD vc
theorem st64 : isStruct Tryz.prog 64 = true := by kernel_rfl
theorem sh64 : Tryz.prog.stoodInHeld 64 = false := by kernel_rfl
theorem eg64 : Tryz.prog.eqGuardType Tryz.prog.depth 64 = false := by kernel_rfl
theorem ec64 (a c : Int) (s t : ByteArray) : eqCells Tryz.prog [.int .i64 a, .str s] [.int .i64 c, .str t] (Tryz.prog.fieldsOf 64).toList = some ((a == c) && (seq s t && true)) := by kernel_rfl
theorem seq_self (s : ByteArray) : seq s s = true := seq_eq.2 rfl
theorem item_same {H : Hp} (a : Int) (s : ByteArray) : (orX (vbin Tryz.prog .neq 64 (.agg [.int .i64 a, .str s]) (.agg [.int .i64 a, .str s])) (vbinX Tryz.prog .neq 64 (.agg [.int .i64 a, .str s]) (.agg [.int .i64 a, .str s]))).map (·, H) = some (.bool false, H) := by
 have h1 : vbin Tryz.prog .neq 64 (.agg [.int .i64 a, .str s]) (.agg [.int .i64 a, .str s]) = none := by
  simp only [vbin, veqNil, Tryz.underlying64, Option.map_none]
 have h2 : veqAgg Tryz.prog 64 (.agg [.int .i64 a, .str s]) (.agg [.int .i64 a, .str s]) = some true := by
  simp only [veqAgg, st64, sh64, eg64, and_self, if_true, ec64, seq_self, beq_self_eq_true, Bool.and_self]
 have h3 : vsame Tryz.prog 64 (.agg [.int .i64 a, .str s]) (.agg [.int .i64 a, .str s]) = none := by
  simp only [vsame, Tryz.underlying64]
 rw [h1]
 simp only [orX, vbinX, h3, orB, h2]
 rfl
def badI (f : List PI) (w : Int) : Bool := decide (w < 0) || decide (w ≥ (f.length : Int))
def askF (b : PB) (f : List PI) (ws : List Int) : Int := if baseOk b = true then (if rightP b f = true then (if ws.any (badI f) = true then 2 else 0) else 120) else 100
theorem ask_nil (b : PB) (f : List PI) : askF b f [] = forestE b f := by
 unfold askF forestE
 by_cases hv : baseOk b = true
 · rw [if_pos hv, if_pos hv, valid_right hv]
   simp
 · rw [if_neg hv, if_neg hv]
theorem right_fits {b : PB} {f : List PI} (h : rightP b f = true) : Fits b f := by
 simp only [rightP, Bool.and_eq_true] at h
 exact fun y hy => List.all_eq_true.1 h.1.2 y hy
theorem ask_one {b : PB} {f : List PI} {i : Int} (h : askF b f [i] = 0) : baseOk b = true ∧ rightP b f = true ∧ 0 ≤ i ∧ i < f.length := by
 unfold askF at h
 split at h
 · rename_i h1
   split at h
   · rename_i h2
     split at h
     · cases h
     · rename_i h3
       simp [badI] at h3
       exact ⟨h1, h2, by omega, by omega⟩
   · cases h
 · cases h
theorem dig_sl {H : Hp} {n : Nat} (h : n ≤ 9) : (vslice Tryz.prog H 9 (.str ⟨#[48, 49, 50, 51, 52, 53, 54, 55, 56, 57, 97, 98, 99, 100, 101, 102, 103, 104, 105, 106, 107, 108, 109, 110, 111, 112, 113, 114, 115, 116, 117, 118, 119, 120, 121, 122]⟩) (some (.int .i64 (n : Nat))) (some (.int .i64 ((n + 1 : Nat) : Int))) none).map (·, H) = some (.str (bs [hd n]), H) := by
 have hm := s_mid (P := Tryz.prog) (H := H) (t := 9) (l := [48, 49, 50, 51, 52, 53, 54, 55, 56, 57, 97, 98, 99, 100, 101, 102, 103, 104, 105, 106, 107, 108, 109, 110, 111, 112, 113, 114, 115, 116, 117, 118, 119, 120, 121, 122]) (k1 := .i64) (k2 := .i64) (a := n) (z := n + 1) Tryz.underlying9 (by omega) (by simp; omega)
 have : ∀ m : Fin 10, (([48, 49, 50, 51, 52, 53, 54, 55, 56, 57, 97, 98, 99, 100, 101, 102, 103, 104, 105, 106, 107, 108, 109, 110, 111, 112, 113, 114, 115, 116, 117, 118, 119, 120, 121, 122] : List UInt8).drop m.1).take (m.1 + 1 - m.1) = [hd m.1] := by decide
 rw [this ⟨n, by omega⟩] at hm
 exact hm
theorem enc_dig {H : Hp} {n : Nat} (h : n ≤ 9) : some (AV.str (Utf8.encode ((48 + n : Nat) : Int)), H) = some (AV.str (bs [hd n]), H) := by
 have : ∀ m : Fin 10, Utf8.encode ((48 + m.1 : Nat) : Int) = bs [hd m.1] := by decide +kernel
 rw [this ⟨n, by omega⟩]
theorem i32_eq {H : Hp} {a b : Int} (h : a = b) : some (AV.int .i32 a, H) = some (AV.int .i32 b, H) := by rw [h]
theorem i32_small {n : Int} (h1 : 0 ≤ n) (h2 : n < 2147483648) : IntKind.i32.wrap n = n := by
 have h : IntKind.i32.wrap n = if (true && decide (n % 4294967296 ≥ 2147483648)) = true then n % 4294967296 - 4294967296 else n % 4294967296 := rfl
 rw [h, if_neg (by simp; omega)]
 omega
set_option maxHeartbeats 8000000 in
theorem zSame (G : Glob) (x y : AV) (f : List PI) (hx : ItemsIs x f) (hy : ItemsIs y f) : Vi.Fn Tryz.prog G 13 [x, y] (.bool true) := by
 have hXL := hx.isL
 have hYL := hy.isL
 have hxl : (lrows x).length = f.length := by rw [hx.rows]; simp
 have hyl : (lrows y).length = f.length := by rw [hy.rows]; simp
 have hxlen := hx.len
 refine fn_body (fun _ => .iso) Tryz.func13 rfl ?_
 refine vc_norm (env' := (_ :: _ :: _ :: _ :: _ :: _ :: _ :: _ :: _ :: _ :: _ :: _ :: _ :: _ :: _ :: _ :: _ :: _ :: _ :: _ :: _ :: _ :: _ :: _ :: _ :: _ :: [])) (H' := []) rfl rfl ?_
 refine vs (wr ?_)
 refine wN rfl rfl rfl (v26 rfl ?_)
 refine we rfl (vs (vs (wr ?_)))
 refine wN rfl rfl rfl (v26 rfl ?_)
 first | refine wN rfl rfl rfl (v26 rfl ?_) | refine x_len rfl rfl ‹_› Tryz.underlying26 rfl (v26 rfl ?_)
 refine wN rfl rfl rfl (v26 rfl ?_)
 first | refine wN rfl rfl rfl (v26 rfl ?_) | refine x_len rfl rfl ‹_› Tryz.underlying26 rfl (v26 rfl ?_)
 refine wN rfl rfl rfl (v26 rfl ?_)
 refine we rfl ?_
 refine vc_cond rfl (fun hc10 => ?_) (fun hc10 => ?_)
 ·
  rw [hxl, hyl] at hc10
  simp at hc10
 ·
  refine vc_skip (n_then (vs (vs (wr ?_))))
  refine wN rfl rfl rfl (v26 rfl ?_)
  refine we rfl (vc_block ?_)
  refine vc_loopU (α := { i : Nat // i ≤ f.length }) (fun i => (rnone 4 ++ ([some .undef, some (.int .i64 (i.1 : Nat))] ++ (rnone 5 ++ (rundef 15))))) (fun i => f.length - i.1) ⟨0, by omega⟩ (by repeat' first | exact trivial | refine ⟨.inr rfl, ?_⟩ | refine ⟨.inl rfl, ?_⟩ | fail) (fun _ => ⟨Nat.zero_le _, (by repeat' first | exact trivial | exact IsL.belowV ‹_› | refine ⟨?_, ?_⟩ | exact IsL.below ‹_› | (simp [valB, leafB, cellsB, IsL.below, *]; done) | (simp [valB, leafB, cellsB, IsL.below, *]; omega) | fail), (by repeat' first | exact trivial | exact IsL.below (by assumption) | refine ⟨?_, ?_⟩ | (simp [leafB]; done))⟩) ?_
  rintro ⟨i, hi⟩ Y0 hY0
  refine vc_norm (env' := (_ :: _ :: _ :: _ :: _ :: (.int .i64 (i : Int)) :: _ :: _ :: _ :: _ :: _ :: _ :: _ :: _ :: _ :: _ :: _ :: _ :: _ :: _ :: _ :: _ :: _ :: _ :: _ :: _ :: [])) (H' := []) rfl rfl ?_
  refine vs (vs (wr ?_))
  iterate 2 refine wN rfl rfl rfl (v26 rfl ?_)
  first | refine wN rfl rfl rfl (v26 rfl ?_) | refine x_len rfl rfl ‹_› Tryz.underlying26 rfl (v26 rfl ?_)
  refine wN rfl rfl rfl (v26 rfl ?_)
  refine we rfl ?_
  refine vc_cond rfl (fun hc14 => ?_) (fun hc14 => ?_)
  ·
   have hlt : i < f.length := by have := of_decide_eq_true hc14; omega
   obtain ⟨z, hz⟩ : ∃ z, f[i]? = some z := ⟨_, List.getElem?_eq_getElem hlt⟩
   have hri := hx.at hz
   have hrj := hy.at hz
   refine vc_skip (n_then (vs (vc_block (vs (w_regionD (by kernel_rfl) ?_)))))
   iterate 2 refine dN rfl rfl rfl (d26 rfl ?_)
   first | refine dN (v := .iptr _ [_, _]) rfl rfl rfl (d26 rfl ?_) | (refine y_index rfl rfl ‹_› rfl el26 (by omega) ‹_› rfl (fun bo => ?_); refine d26 rfl ?_)
   refine dN (v := .agg [_, _]) rfl rfl rfl (d26 rfl ?_)
   iterate 2 refine dN rfl rfl rfl (d26 rfl ?_)
   first | refine dN (v := .iptr _ [_, _]) rfl rfl rfl (d26 rfl ?_) | (refine y_index rfl rfl ‹_› rfl el26 (by omega) ‹_› rfl (fun bo => ?_); refine d26 rfl ?_)
   refine dN (v := .agg [_, _]) rfl rfl rfl (d26 rfl ?_)
   refine dN (v := .bool false) rfl (item_same z.type z.data) rfl (d26 rfl ?_)
   refine d_end rfl ?_
   refine vc_cond rfl (fun hc25 => ?_) (fun hc25 => ?_)
   ·
    cases hc25
   ·
    refine vc_skip (n_block (n_then (wr ?_)))
    iterate 3 refine wN rfl rfl rfl (v26 rfl ?_)
    refine we rfl ?_
    refine hY0 ⟨i + 1, hlt⟩ (by simp only; omega) _ _ _ ?_ rfl
    repeat' first | exact trivial | refine ⟨.inr rfl, ?_⟩ | refine ⟨.inl rfl, ?_⟩ | refine ⟨.inl ?_, ?_⟩ | fail
    all_goals first | exact (int_succ (by omega)).symm
  ·
   have hge : ¬ i < f.length := by have := of_decide_eq_false hc14; omega
   refine vc_exit (x_then (x_then (x_same (n_then (vs (wr ?_))))))
   refine wN rfl rfl rfl (v26 rfl ?_)
   refine we rfl (vc_ret (r_fn rfl ?_))
   rfl
set_option maxHeartbeats 8000000 in
theorem zSameInts (G : Glob) (x y : AV) (ws : List Int) (hXL : IsL x) (hYL : IsL y) (hx : lrows x = wrows ws) (hy : lrows y = wrows ws) (hlen : ws.length < 9223372036854775808) : Vi.Fn Tryz.prog G 17 [x, y] (.bool true) := by
 have hxl : (lrows x).length = ws.length := by rw [hx]; simp [wrows]
 have hyl : (lrows y).length = ws.length := by rw [hy]; simp [wrows]
 refine fn_body (fun _ => .iso) Tryz.func17 rfl ?_
 refine vc_norm (env' := (_ :: _ :: _ :: _ :: _ :: _ :: _ :: _ :: _ :: _ :: _ :: _ :: _ :: _ :: _ :: _ :: _ :: _ :: _ :: _ :: _ :: _ :: _ :: _ :: _ :: _ :: [])) (H' := []) rfl rfl ?_
 refine vs (wr ?_)
 refine wN rfl rfl rfl (v26 rfl ?_)
 refine we rfl (vs (vs (wr ?_)))
 refine wN rfl rfl rfl (v26 rfl ?_)
 first | refine wN rfl rfl rfl (v26 rfl ?_) | refine x_len rfl rfl ‹_› Tryz.underlying35 rfl (v26 rfl ?_)
 refine wN rfl rfl rfl (v26 rfl ?_)
 first | refine wN rfl rfl rfl (v26 rfl ?_) | refine x_len rfl rfl ‹_› Tryz.underlying35 rfl (v26 rfl ?_)
 refine wN rfl rfl rfl (v26 rfl ?_)
 refine we rfl ?_
 refine vc_cond rfl (fun hc10 => ?_) (fun hc10 => ?_)
 ·
  rw [hxl, hyl] at hc10
  simp at hc10
 ·
  refine vc_skip (n_then (vs (vs (wr ?_))))
  refine wN rfl rfl rfl (v26 rfl ?_)
  refine we rfl (vc_block ?_)
  refine vc_loopU (α := { i : Nat // i ≤ ws.length }) (fun i => (rnone 4 ++ ([some .undef, some (.int .i64 (i.1 : Nat))] ++ (rnone 5 ++ (rundef 15))))) (fun i => ws.length - i.1) ⟨0, by omega⟩ (by repeat' first | exact trivial | refine ⟨.inr rfl, ?_⟩ | refine ⟨.inl rfl, ?_⟩ | fail) (fun _ => ⟨Nat.zero_le _, (by repeat' first | exact trivial | exact IsL.belowV ‹_› | refine ⟨?_, ?_⟩ | exact IsL.below ‹_› | (simp [valB, leafB, cellsB, IsL.below, *]; done) | (simp [valB, leafB, cellsB, IsL.below, *]; omega) | fail), (by repeat' first | exact trivial | exact IsL.below (by assumption) | refine ⟨?_, ?_⟩ | (simp [leafB]; done))⟩) ?_
  rintro ⟨i, hi⟩ Y0 hY0
  refine vc_norm (env' := (_ :: _ :: _ :: _ :: _ :: (.int .i64 (i : Int)) :: _ :: _ :: _ :: _ :: _ :: _ :: _ :: _ :: _ :: _ :: _ :: _ :: _ :: _ :: _ :: _ :: _ :: _ :: _ :: _ :: [])) (H' := []) rfl rfl ?_
  refine vs (vs (wr ?_))
  iterate 2 refine wN rfl rfl rfl (v26 rfl ?_)
  first | refine wN rfl rfl rfl (v26 rfl ?_) | refine x_len rfl rfl ‹_› Tryz.underlying35 rfl (v26 rfl ?_)
  refine wN rfl rfl rfl (v26 rfl ?_)
  refine we rfl ?_
  refine vc_cond rfl (fun hc14 => ?_) (fun hc14 => ?_)
  ·
   have hlt : i < ws.length := by have := of_decide_eq_true hc14; omega
   obtain ⟨w, hw⟩ : ∃ w, ws[i]? = some w := ⟨_, List.getElem?_eq_getElem hlt⟩
   have hri : (lrows x)[i]? = some [.int .i64 w] := by rw [hx]; exact wrows_at hw
   have hrj : (lrows y)[i]? = some [.int .i64 w] := by rw [hy]; exact wrows_at hw
   refine vc_skip (n_then (vs (vc_block (vs (w_regionD (by kernel_rfl) ?_)))))
   iterate 2 refine dN rfl rfl rfl (d26 rfl ?_)
   first | refine dN (v := .iptr _ [_]) rfl rfl rfl (d26 rfl ?_) | (refine y_index rfl rfl ‹_› rfl el35 (by omega) ‹_› rfl (fun bo => ?_); refine d26 rfl ?_)
   iterate 3 refine dN rfl rfl rfl (d26 rfl ?_)
   first | refine dN (v := .iptr _ [_]) rfl rfl rfl (d26 rfl ?_) | (refine y_index rfl rfl ‹_› rfl el35 (by omega) ‹_› rfl (fun bo => ?_); refine d26 rfl ?_)
   iterate 2 refine dN rfl rfl rfl (d26 rfl ?_)
   refine d_end rfl ?_
   refine vc_cond rfl (fun hc25 => ?_) (fun hc25 => ?_)
   ·
    simp at hc25
   ·
    refine vc_skip (n_block (n_then (wr ?_)))
    iterate 3 refine wN rfl rfl rfl (v26 rfl ?_)
    refine we rfl ?_
    refine hY0 ⟨i + 1, hlt⟩ (by simp only; omega) _ _ _ ?_ rfl
    repeat' first | exact trivial | refine ⟨.inr rfl, ?_⟩ | refine ⟨.inl rfl, ?_⟩ | refine ⟨.inl ?_, ?_⟩ | fail
    all_goals first | exact (int_succ (by omega)).symm
  ·
   have hge : ¬ i < ws.length := by have := of_decide_eq_false hc14; omega
   refine vc_exit (x_then (x_then (x_same (n_then (vs (wr ?_))))))
   refine wN rfl rfl rfl (v26 rfl ?_)
   refine we rfl (vc_ret (r_fn rfl ?_))
   rfl
set_option maxHeartbeats 8000000 in
theorem zAskF (G : Glob) (b : PB) (hb : BaseV b) (x : AV) (f : List PI) (hx : ItemsIs x f) (y : AV) (ws : List Int) (hYL : IsL y) (hy : lrows y = wrows ws) (hwl : ws.length < 9223372036854775808) : Vi.Fn Tryz.prog G 39 [.agg (encB b), x, y] (.int .i64 (askF b f ws)) := by
 have hL := hb.types.isL
 have hLs := hb.search.isL
 have htv := hb.txv
 have hsv := hb.sxv
 have hxl : (lrows b.tx).length = b.types.length := by rw [hb.types.rows]; simp
 have hXL := hx.isL
 have hfl : (lrows x).length = f.length := by rw [hx.rows]; simp
 have hyl : (lrows y).length = ws.length := by rw [hy]; simp [wrows]
 have hval := zRefValid G b hb.toBaseIs
 rw [← valid_eq] at hval
 refine fn_body (fun _ => .iso) Tryz.func39 rfl ?_
 refine vc_norm (env' := (_ :: _ :: _ :: _ :: _ :: _ :: _ :: _ :: _ :: _ :: _ :: _ :: _ :: _ :: _ :: _ :: _ :: _ :: _ :: _ :: _ :: _ :: _ :: _ :: _ :: _ :: _ :: _ :: _ :: _ :: _ :: _ :: _ :: _ :: _ :: _ :: _ :: [])) (H' := []) rfl rfl ?_
 refine vs (wr ?_)
 refine w_opH (v := .ptr 0 0 0) (env' := _) (H2 := [.arr 25 4 [[_, _, _, _]]]) rfl rfl rfl rfl (fun _ h => h) (v37 rfl ?_)
 refine wN rfl rfl rfl (v37 rfl ?_)
 refine we rfl (vs (vc_block (vs (wr ?_))))
 refine wN (v := .agg [_, _, _, _]) rfl rfl rfl (v37 rfl ?_)
 refine w_callI (env' := _) rfl rfl rfl (by kernel_rfl) rfl (by repeat' first | exact IsL.lend ‹_› | exact IsL.lend0 ‹_› | refine mapL_cons ?_ ?_ | refine lend_agg ?_ | rfl) (hval) rfl (v37 rfl ?_)
 iterate 2 refine wN rfl rfl rfl (v37 rfl ?_)
 refine we rfl ?_
 refine vc_cond rfl (fun hc8 => ?_) (fun hc8 => ?_)
 ·
  have hv : baseOk b = false := by simpa using hc8
  refine vs (wr ?_)
  refine wN rfl rfl rfl (v37 rfl ?_)
  refine we rfl (vc_ret (r_block (r_then (r_fn rfl ?_))))
  show some (AV.int .i64 100) = some (AV.int .i64 (askF b f ws))
  rw [askF, if_neg (by rw [hv]; simp)]
 ·
  have hv : baseOk b = true := by simpa using hc8
  refine vs (wr ?_)
  refine wN (v := .agg [_, _, _, _]) rfl rfl rfl (v37 rfl ?_)
  refine wN rfl rfl rfl (v37 rfl ?_)
  refine w_callI (env' := _) rfl rfl rfl (by kernel_rfl) rfl (by repeat' first | exact IsL.lend ‹_› | exact IsL.lend0 ‹_› | refine mapL_cons ?_ ?_ | refine lend_agg ?_ | rfl) (zRight G b hb x f hx hv) rfl (v37 rfl ?_)
  iterate 2 refine wN rfl rfl rfl (v37 rfl ?_)
  refine we rfl ?_
  refine vc_cond rfl (fun hc12 => ?_) (fun hc12 => ?_)
  ·
   have hr : rightP b f = false := by simpa using hc12
   refine vs (wr ?_)
   refine wN rfl rfl rfl (v37 rfl ?_)
   refine we rfl (vc_ret (r_block (r_then (r_fn rfl ?_))))
   show some (AV.int .i64 120) = some (AV.int .i64 (askF b f ws))
   rw [askF, if_pos hv, if_neg (by rw [hr]; simp)]
  ·
   have hr : rightP b f = true := by simpa using hc12
   refine vc_skip (n_block (n_then (vs (vs (wr ?_)))))
   refine wN rfl rfl rfl (v37 rfl ?_)
   refine we rfl (vc_block ?_)
   refine vc_loopU (α := { i : Nat // (∀ j v, j < i → ws[j]? = some v → badI f v = false) ∧ i ≤ ws.length }) (fun i => (rnone 6 ++ ([some .undef, some (.int .i64 (i.1 : Nat))] ++ (rnone 9 ++ (rundef 20))))) (fun i => ws.length - i.1) ⟨0, fun j r h => by omega, by omega⟩ (by repeat' first | exact trivial | refine ⟨.inr rfl, ?_⟩ | refine ⟨.inl rfl, ?_⟩ | fail) (fun _ => ⟨Nat.zero_le _, (by repeat' first | exact trivial | exact IsL.belowV ‹_› | refine ⟨?_, ?_⟩ | exact IsL.below ‹_› | (simp [valB, leafB, cellsB, IsL.below, *]; done) | (simp [valB, leafB, cellsB, IsL.below, *]; omega) | fail), (by repeat' first | exact trivial | exact IsL.below (by assumption) | refine ⟨?_, ?_⟩ | (simp [leafB]; done))⟩) ?_
   rintro ⟨i, hn, hi⟩ Y0 hY0
   refine vc_norm (env' := (_ :: _ :: _ :: _ :: _ :: _ :: _ :: (.int .i64 (i : Int)) :: _ :: _ :: _ :: _ :: _ :: _ :: _ :: _ :: _ :: _ :: _ :: _ :: _ :: _ :: _ :: _ :: _ :: _ :: _ :: _ :: _ :: _ :: _ :: _ :: _ :: _ :: _ :: _ :: _ :: [])) (H' := [.arr 25 4 [[_, _, _, _]]]) rfl rfl ?_
   refine vs (vs (wr ?_))
   iterate 2 refine wN rfl rfl rfl (v37 rfl ?_)
   first | refine wN rfl rfl rfl (v37 rfl ?_) | refine x_len rfl rfl ‹_› Tryz.underlying35 rfl (v37 rfl ?_)
   refine wN rfl rfl rfl (v37 rfl ?_)
   refine we rfl ?_
   refine vc_cond rfl (fun hc20 => ?_) (fun hc20 => ?_)
   ·
    have hlt : i < ws.length := by have := of_decide_eq_true hc20; omega
    obtain ⟨w, hw⟩ : ∃ w, ws[i]? = some w := ⟨_, List.getElem?_eq_getElem hlt⟩
    have hri : (lrows y)[i]? = some [.int .i64 w] := by rw [hy]; exact wrows_at hw
    refine vc_skip (n_then (vs (vc_block (vs (wr ?_)))))
    iterate 2 refine wN rfl rfl rfl (v37 rfl ?_)
    first | refine wN (v := .iptr _ [_]) rfl rfl rfl (v37 rfl ?_) | (refine x_index rfl rfl ‹_› rfl el35 (by omega) ‹_› rfl (fun bo => ?_); refine v37 rfl ?_)
    iterate 3 refine wN rfl rfl rfl (v37 rfl ?_)
    refine w_split 28 rfl (fun hg28 => ?_) (fun hg28 => ?_)
    ·
     refine v37 rfl ?_
     iterate 7 refine wS (wanted_f 28 (by kernel_rfl) rfl) (v37 rfl ?_)
     refine wN rfl rfl rfl (v37 rfl ?_)
     refine we rfl ?_
     refine vc_true rfl ?_
     refine vs (wr ?_)
     refine wN rfl rfl rfl (v37 rfl ?_)
     refine we rfl (vc_ret (r_block (r_then (r_then (r_block (r_then (r_fn rfl ?_)))))))
     show some (AV.int .i64 2) = some (AV.int .i64 (askF b f ws))
     have hbad : badI f w = true := by have h1 := of_decide_eq_true hg28; unfold badI; rw [decide_eq_true h1]; rfl
     rw [askF, if_pos hv, if_pos hr, if_pos (List.any_eq_true.2 ⟨w, List.mem_of_getElem? hw, hbad⟩)]
    ·
     refine v37 rfl ?_
     iterate 2 refine wN (wanted_t 28 (by kernel_rfl) rfl) rfl rfl (v37 rfl ?_)
     first | refine wN (v := .iptr _ [_]) (wanted_t 28 (by kernel_rfl) rfl) rfl rfl (v37 rfl ?_) | (refine x_index (wanted_t 28 (by kernel_rfl) rfl) rfl ‹_› rfl el35 (by omega) ‹_› rfl (fun bo => ?_); refine v37 rfl ?_)
     iterate 2 refine wN (wanted_t 28 (by kernel_rfl) rfl) rfl rfl (v37 rfl ?_)
     first | refine wN (wanted_t 28 (by kernel_rfl) rfl) rfl rfl (v37 rfl ?_) | refine x_len (wanted_t 28 (by kernel_rfl) rfl) rfl ‹_› Tryz.underlying26 rfl (v37 rfl ?_)
     refine wN (wanted_t 28 (by kernel_rfl) rfl) rfl rfl (v37 rfl ?_)
     refine wN rfl rfl rfl (v37 rfl ?_)
     refine we rfl ?_
     refine vc_cond rfl (fun hc36 => ?_) (fun hc36 => ?_)
     ·
      refine vs (wr ?_)
      refine wN rfl rfl rfl (v37 rfl ?_)
      refine we rfl (vc_ret (r_block (r_then (r_then (r_block (r_then (r_fn rfl ?_)))))))
      show some (AV.int .i64 2) = some (AV.int .i64 (askF b f ws))
      have hbad : badI f w = true := by have h1 := of_decide_eq_true hc36; unfold badI; rw [decide_eq_true (show w ≥ (f.length : Int) by omega), Bool.or_true]
      rw [askF, if_pos hv, if_pos hr, if_pos (List.any_eq_true.2 ⟨w, List.mem_of_getElem? hw, hbad⟩)]
     ·
      have hbad : badI f w = false := by have h1 := of_decide_eq_false hg28; have h2 := of_decide_eq_false hc36; unfold badI; rw [decide_eq_false h1, decide_eq_false (by omega)]; rfl
      refine vc_skip (n_block (n_then (wr ?_)))
      iterate 3 refine wN rfl rfl rfl (v37 rfl ?_)
      refine we rfl ?_
      refine hY0 ⟨i + 1, fun j v hj hv2 => by by_cases e : j = i; subst e; rw [hw] at hv2; cases hv2; exact hbad; exact hn j v (by omega) hv2, hlt⟩ (by simp only; omega) _ _ _ ?_ rfl
      repeat' first | exact trivial | refine ⟨.inr rfl, ?_⟩ | refine ⟨.inl rfl, ?_⟩ | refine ⟨.inl ?_, ?_⟩ | fail
      all_goals first | exact (int_succ (by omega)).symm
   ·
    have hge : ¬ i < ws.length := by have := of_decide_eq_false hc20; omega
    refine vc_exit (x_then (x_then (x_same (n_then (vs (wr ?_))))))
    refine wN rfl rfl rfl (v37 rfl ?_)
    refine we rfl (vc_ret (r_fn rfl ?_))
    show some (AV.int .i64 0) = some (AV.int .i64 (askF b f ws))
    rw [askF, if_pos hv, if_pos hr, if_neg]
    rw [Bool.not_eq_true, List.any_eq_false]
    intro v hv2
    obtain ⟨j, hj⟩ := List.mem_iff_getElem?.1 hv2
    rw [hn j v (by have := (List.getElem?_eq_some_iff.1 hj).1; omega) hj]
    simp
set_option maxHeartbeats 8000000 in
theorem zParentF (G : Glob) (b : PB) (hb : BaseV b) (x : AV) (f : List PI) (hx : ItemsIs x f) (i : Int) : Vi.Fn Tryz.prog G 52 [.agg (encB b), x, .int .i64 i] (.tup [.int .i64 (if askF b f [i] = 0 then par b f i.toNat else 0), .int .i64 (askF b f [i])]) := by
 have hL := hb.types.isL
 have hLs := hb.search.isL
 have htv := hb.txv
 have hsv := hb.sxv
 have hxl : (lrows b.tx).length = b.types.length := by rw [hb.types.rows]; simp
 have hXL := hx.isL
 have hfl : (lrows x).length = f.length := by rw [hx.rows]; simp
 refine fn_body (fun _ => .iso) Tryz.func52 rfl ?_
 refine vc_norm (env' := [_, _, _, _, _, _, _, _, _, _, _, _, _, _, _, _, _, _, _, _, _]) (H' := []) rfl rfl ?_
 refine vs (wr ?_)
 refine w_opH (v := .ptr 0 0 0) (env' := _) (H2 := [.arr 25 4 [[_, _, _, _]]]) rfl rfl rfl rfl (fun _ h => h) (v21 rfl ?_)
 iterate 2 refine wN rfl rfl rfl (v21 rfl ?_)
 refine we rfl (vs (vs (wr ?_)))
 refine wN (v := .agg [_, _, _, _]) rfl rfl rfl (v21 rfl ?_)
 iterate 3 refine wN rfl rfl rfl (v21 rfl ?_)
 refine w_callI (env' := _) rfl rfl rfl (by kernel_rfl) rfl (by repeat' first | exact IsL.lend ‹_› | exact IsL.lend0 ‹_› | refine mapL_cons ?_ ?_ | refine lend_agg ?_ | rfl) (zAskF G b hb x f hx (.list .tight [[.int .i64 i]]) [i] (.inr ⟨_, _, rfl⟩) rfl (by simp)) rfl (v21 rfl ?_)
 refine wN rfl rfl rfl (v21 rfl ?_)
 refine we rfl (vs (wr ?_))
 iterate 2 refine wN rfl rfl rfl (v21 rfl ?_)
 refine we rfl ?_
 refine vc_cond rfl (fun hc15 => ?_) (fun hc15 => ?_)
 ·
  have hne : ¬ askF b f [i] = 0 := by simpa using hc15
  refine vs (wr ?_)
  iterate 3 refine wN rfl rfl rfl (v21 rfl ?_)
  refine we rfl (vc_ret (r_then (r_fn rfl ?_)))
  rw [if_neg hne]
  rfl
 ·
  have h0 : askF b f [i] = 0 := by simpa using hc15
  obtain ⟨h1, h2, h3, h4⟩ := ask_one h0
  refine vc_skip (n_then (vs (wr ?_)))
  refine wN (v := .agg [_, _, _, _]) rfl rfl rfl (v21 rfl ?_)
  iterate 2 refine wN rfl rfl rfl (v21 rfl ?_)
  refine w_callI (env' := _) rfl rfl rfl (by kernel_rfl) rfl (by repeat' first | exact IsL.lend ‹_› | exact IsL.lend0 ‹_› | refine mapL_cons ?_ ?_ | refine lend_agg ?_ | rfl) (zPar G b hb x f hx (right_fits h2) i h3 h4) rfl (v21 rfl ?_)
  iterate 2 refine wN rfl rfl rfl (v21 rfl ?_)
  refine we rfl (vc_ret (r_fn rfl ?_))
  rw [if_pos h0, h0]
  rfl
set_option maxHeartbeats 8000000 in
theorem zSmall0 (G : Glob) (n : Nat) (hn : n ≤ 9) : Vi.Fn Tryz.prog G 130 [.int .i64 (n : Nat)] (.str (bs [hd n])) := by
 refine fn_body (fun _ => .iso) Tryz.func130 rfl ?_
 refine vc_norm (env' := [_, _, _, _, _, _, _, _, _, _, _, _, _, _, _]) (H' := []) rfl rfl ?_
 refine vs (wr ?_)
 refine wN rfl rfl rfl (v15 rfl ?_)
 refine we rfl (vs (vs (wr ?_)))
 iterate 2 refine wN rfl rfl rfl (v15 rfl ?_)
 refine we rfl ?_
 refine vc_cond rfl (fun hc4 => ?_) (fun hc4 => ?_)
 ·
  refine vs (wr ?_)
  iterate 2 refine wN rfl rfl rfl (v15 rfl ?_)
  refine wN (v := .int .i64 ((n + 1 : Nat) : Int)) rfl (int_eq (by rw [i64_small (by omega) (by omega)]; omega)) rfl (v15 rfl ?_)
  refine wN (v := .str (bs [hd n])) rfl (dig_sl hn) rfl (v15 rfl ?_)
  refine wN rfl rfl rfl (v15 rfl ?_)
  refine we rfl (vc_ret (r_then (r_fn rfl ?_)))
  rfl
 ·
  have := of_decide_eq_false hc4
  omega
set_option maxHeartbeats 8000000 in
theorem zFormat (G : Glob) (n : Nat) (hn : n ≤ 9) : Vi.Fn Tryz.prog G 103 [.int .i64 (n : Nat), .int .i64 10] (.str (bs [hd n])) := by
 refine fn_body (fun _ => .iso) Tryz.func103 rfl ?_
 refine vc_norm (env' := (_ :: _ :: _ :: _ :: _ :: _ :: _ :: _ :: _ :: _ :: _ :: _ :: _ :: _ :: _ :: _ :: _ :: _ :: _ :: _ :: _ :: _ :: _ :: _ :: _ :: _ :: _ :: _ :: _ :: _ :: _ :: _ :: _ :: _ :: _ :: _ :: _ :: _ :: _ :: _ :: _ :: _ :: _ :: _ :: _ :: _ :: _ :: _ :: _ :: _ :: _ :: _ :: _ :: _ :: [])) (H' := []) rfl rfl ?_
 refine vs (wr ?_)
 refine wN rfl rfl rfl (v54 rfl ?_)
 refine we rfl (vs (vs (wr ?_)))
 iterate 2 refine wN rfl rfl rfl (v54 rfl ?_)
 refine we rfl ?_
 refine vc_cond rfl (fun hc11 => ?_) (fun hc11 => ?_)
 ·
  refine vs (vs (wr ?_))
  iterate 3 refine wN rfl rfl rfl (v54 rfl ?_)
  refine w_split 14 rfl (fun hg14 => ?_) (fun hg14 => ?_)
  ·
   refine v54 rfl ?_
   iterate 2 refine wN (wanted_t 14 (by kernel_rfl) rfl) rfl rfl (v54 rfl ?_)
   refine wN rfl rfl rfl (v54 rfl ?_)
   refine we rfl ?_
   refine vc_cond rfl (fun hc17 => ?_) (fun hc17 => ?_)
   ·
    refine vs (wr ?_)
    refine wN rfl rfl rfl (v54 rfl ?_)
    refine w_callI (env' := _) rfl rfl rfl (by kernel_rfl) rfl (by repeat' first | exact IsL.lend ‹_› | exact IsL.lend0 ‹_› | refine mapL_cons ?_ ?_ | refine lend_agg ?_ | rfl) (zSmall0 G n hn) rfl (v54 rfl ?_)
    refine wN rfl rfl rfl (v54 rfl ?_)
    refine we rfl (vc_ret (r_then (r_then (r_fn rfl ?_))))
    rfl
   ·
    have := of_decide_eq_false hc17
    omega
  ·
   have := of_decide_eq_false hg14
   omega
 ·
  cases hc11
set_option maxHeartbeats 8000000 in
theorem zItoa0 (G : Glob) (n : Nat) (hn : n ≤ 9) : Vi.Fn Tryz.prog G 73 [.int .i64 (n : Nat)] (.str (bs [hd n])) := by
 refine fn_body (fun _ => .iso) Tryz.func73 rfl ?_
 refine vc_norm (env' := [_, _, _, _, _]) (H' := []) rfl rfl ?_
 refine vs (wr ?_)
 refine wN rfl rfl rfl (v5 rfl ?_)
 refine we rfl (vs (wr ?_))
 refine wN rfl rfl rfl (v5 rfl ?_)
 refine w_callI (env' := _) rfl rfl rfl (by kernel_rfl) rfl (by repeat' first | exact IsL.lend ‹_› | exact IsL.lend0 ‹_› | refine mapL_cons ?_ ?_ | refine lend_agg ?_ | rfl) (zFormat G n hn) rfl (v5 rfl ?_)
 refine wN rfl rfl rfl (v5 rfl ?_)
 refine we rfl (vc_ret (r_fn rfl ?_))
 rfl
set_option maxHeartbeats 8000000 in
theorem zItoa (G : Glob) (n : Nat) (hn : n ≤ 9) : Vi.Fn Tryz.prog G 36 [.int .i64 (n : Nat)] (.str (bs [hd n])) := by
 refine fn_body (fun _ => .iso) Tryz.func36 rfl ?_
 refine vc_norm (env' := [_, _, _, _, _]) (H' := []) rfl rfl ?_
 refine vs (wr ?_)
 refine wN rfl rfl rfl (v5 rfl ?_)
 refine we rfl (vs (wr ?_))
 refine wN rfl rfl rfl (v5 rfl ?_)
 refine w_callI (env' := _) rfl rfl rfl (by kernel_rfl) rfl (by repeat' first | exact IsL.lend ‹_› | exact IsL.lend0 ‹_› | refine mapL_cons ?_ ?_ | refine lend_agg ?_ | rfl) (zItoa0 G n hn) rfl (v5 rfl ?_)
 refine wN rfl rfl rfl (v5 rfl ?_)
 refine we rfl (vc_ret (r_fn rfl ?_))
 rfl
set_option maxHeartbeats 8000000 in
theorem zDec (G : Glob) (n : Nat) (hn : n ≤ 9) : Vi.Fn Tryz.prog G 41 [.int .i64 (n : Nat)] (.str (bs [hd n])) := by
 refine fn_body (fun _ => .iso) Tryz.func41 rfl ?_
 refine vc_norm (env' := (_ :: _ :: _ :: _ :: _ :: _ :: _ :: _ :: _ :: _ :: _ :: _ :: _ :: _ :: _ :: _ :: _ :: _ :: _ :: _ :: _ :: _ :: _ :: _ :: _ :: _ :: _ :: _ :: _ :: _ :: _ :: _ :: _ :: _ :: _ :: _ :: _ :: _ :: _ :: _ :: _ :: [])) (H' := []) rfl rfl ?_
 refine vs (wr ?_)
 refine wN rfl rfl rfl (v41 rfl ?_)
 refine we rfl (vs (vc_block (vs (wr ?_))))
 iterate 3 refine wN rfl rfl rfl (v41 rfl ?_)
 refine w_split 6 rfl (fun hg6 => ?_) (fun hg6 => ?_)
 ·
  have := of_decide_eq_true hg6
  omega
 ·
  refine v41 rfl ?_
  iterate 2 refine wS (wanted_f 6 (by kernel_rfl) rfl) (v41 rfl ?_)
  iterate 2 refine wN rfl rfl rfl (v41 rfl ?_)
  refine we rfl ?_
  refine vc_false rfl ?_
  refine vs (wr ?_)
  iterate 3 refine wN rfl rfl rfl (v41 rfl ?_)
  refine we rfl ?_
  refine vc_cond rfl (fun hc14 => ?_) (fun hc14 => ?_)
  ·
   have := of_decide_eq_true hc14
   omega
  ·
   refine vs (wr ?_)
   iterate 3 refine wN rfl rfl rfl (v41 rfl ?_)
   refine we rfl ?_
   refine vc_cond rfl (fun hc25 => ?_) (fun hc25 => ?_)
   ·
    refine vs (wr ?_)
    refine wN rfl rfl rfl (v41 rfl ?_)
    refine wN (v := .int .i64 ((48 + n : Nat) : Int)) rfl (int_eq (by rw [i64_small (by omega) (by omega)]; omega)) rfl (v41 rfl ?_)
    refine wN (v := .int .i32 ((48 + n : Nat) : Int)) rfl (i32_eq (i32_small (by omega) (by omega))) rfl (v41 rfl ?_)
    refine wN (v := .str (bs [hd n])) rfl (enc_dig hn) rfl (v41 rfl ?_)
    refine wN rfl rfl rfl (v41 rfl ?_)
    refine we rfl (vc_ret (r_block (r_then (r_fn rfl ?_))))
    rfl
   ·
    have := of_decide_eq_false hc25
    omega
end Go.Vi
