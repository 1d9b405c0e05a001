/- With: a copy with pieces laid in its pages: a walk. -/
import Derived.Test.YtenfndlbldffgaaDoorCwF
set_option autoImplicit false
set_option linter.unusedVariables false
set_option linter.unusedSimpArgs false
set_option maxRecDepth 100000
namespace Go.Vi
open Go Go.Vi Go.Proofs
attribute [local irreducible] vops vopsD vc

theorem z31 : zrOf Tryd.prog 31 = some (.agg [.int .i64 0, .int .i64 0, .nils]) := by kernel_rfl
theorem sz31 : szOf Tryd.prog 31 = some 3 := by kernel_rfl
/-- The state behind the pieces laid so far. -/
theorem WInv.layStep {base Hx : Hp} {q L n : Nat} {locs : List Nat} {last0 : Int} {sh : List Sheet} {l : Nat} {s : Sheet} {pg a : Int} {b : AV} (h : WInv base Hx q L locs last0 n sh) (hok : ShOk sh) (hk : okP [.int .i64 pg, .int .i64 a, b] = true) (hl : locs[pg.toNat]? = some l) (hs : sh[pg.toNat]? = some s) :
    WInv base (Hx.set l (.arr 5 1 (lay s.1 a.toNat (lrows b)))) q L locs last0 n (layP sh [.int .i64 pg, .int .i64 a, b]) := by
  have hb := okP_bounds hk
  have h128 := (hok s (List.mem_of_getElem? hs)).1
  have e : layP sh [.int .i64 pg, .int .i64 a, b] = sh.set pg.toNat (lay s.1 a.toNat (lrows b), s.2) := updS_at hs
  rw [e]
  exact h.byte hl hs (lay_length (by omega))
theorem WInv.stampStep {base Hx : Hp} {q L n : Nat} {locs : List Nat} {last0 : Int} {sh : List Sheet} {l : Nat} {s : Sheet} {pg k : Int} {rows : List (List AV)} (h : WInv base Hx q L locs last0 n sh) (hr : Hx[L]? = some (.arr 50 2 rows)) (hl : locs[pg.toNat]? = some l) (hs : sh[pg.toNat]? = some s) :
    WInv base (Hx.set L (.arr 50 2 (rows.set pg.toNat [.row false l 0 s.1.length, .int .i64 k]))) q L locs last0 n (stampP sh ([.int .i64 pg], [.int .i64 k])) := by
  have e : stampP sh ([.int .i64 pg], [.int .i64 k]) = sh.set pg.toNat (s.1, k) := updS_at hs
  rw [e]
  exact h.stamp hr hl hs
theorem foldl_take {α β : Type} {f : β → α → β} {b : β} {l : List α} {i : Nat} {x : α} (h : l[i]? = some x) : (l.take (i + 1)).foldl f b = f ((l.take i).foldl f b) x := by
  obtain ⟨h1, h2⟩ := List.getElem?_eq_some_iff.1 h
  rw [List.take_add_one, h]
  simp [List.foldl_append]
theorem foldl_all {α β : Type} {f : β → α → β} {b : β} {l : List α} {i : Nat} (h : l.length ≤ i) : (l.take i).foldl f b = l.foldl f b := by
  rw [List.take_of_length_le h]
theorem ShOk.layAll : ∀ (l : List (List AV)) (sh : List Sheet), ShOk sh → (∀ r ∈ l, okP r = true ∧ Bs (pBy r)) → ShOk (l.foldl layP sh)
  | [], sh, h, _ => h
  | r :: l, sh, h, hk => ShOk.layAll l _ (h.lay (hk r (by simp)).1 (hk r (by simp)).2) fun r' hr' => hk r' (by simp [hr'])
theorem ShOk.stampAll : ∀ (l : List (List AV × List AV)) (sh : List Sheet), ShOk sh → ShOk (l.foldl stampP sh)
  | [], sh, h => h
  | r :: l, sh, h => ShOk.stampAll l _ h.stamp
theorem piece_val {r : List AV} (h : PieceOk r) : Bs (pBy r) := by
  obtain ⟨pg, a, b, rfl, hL, h1, h2⟩ := h
  exact h2

theorem pval_len {P : Program} {H : Hp} {t e : TypeId} {L : Nat} {pgs : List (List AV)} (hu : P.underlying t = some (.slice e)) : (vlen P H t (pval L pgs)).map (·, H) = some (.int .i64 ((pgs.length : Nat) : Int), H) := by
  by_cases h : pgs = []
  · subst h; simp [pval, vlen, hu]
  · simp [pval, h, vlen, hu]
theorem pval_row {L : Nat} {pgs : List (List AV)} (h : pgs ≠ []) : pval L pgs = .row false L 0 pgs.length := by simp [pval, h]
theorem pobj_arr {e : TypeId} {sz : Nat} {pgs : List (List AV)} (h : pgs ≠ []) : pobj e sz pgs = .arr e sz pgs := by simp [pobj, h]
structure Inv2 (l : List (List AV)) (i : Nat) (pgs : List (List AV)) : Prop where
  inv : Inv l i pgs
  zero : i = 0 → pgs = []
  last : 0 < i → ∃ q, l[i - 1]? = some q ∧ pgs ≠ [] ∧ pgs[pgs.length - 1]? = some [.int .i64 (pPg q)]
theorem inv2_zero (l : List (List AV)) : Inv2 l 0 [] := ⟨inv_zero l, fun _ => rfl, fun h => by omega⟩
theorem Inv2.new {l : List (List AV)} {i : Nat} {pgs : List (List AV)} {r : List AV} (hI : Inv2 l i pgs) (hr : l[i]? = some r) (hk : okP r = true) (hn : i = 0 ∨ ∃ q, l[i - 1]? = some q ∧ pPg r > pPg q) : Inv2 l (i + 1) (pgs ++ [[.int .i64 (pPg r)]]) :=
  ⟨scan_new hI.inv hr hk hn, fun h => by omega, fun _ => ⟨r, by simpa using hr, by simp, by simp⟩⟩
theorem Inv2.same {l : List (List AV)} {i : Nat} {pgs : List (List AV)} {r q : List AV} (hI : Inv2 l i pgs) (hr : l[i]? = some r) (hk : okP r = true) (h0 : 0 < i) (hq : l[i - 1]? = some q) (he : pPg r = pPg q) (h2 : ¬ pAt r ≤ pAt q + (pBy q).length) : Inv2 l (i + 1) pgs := by
  obtain ⟨q', h3, h4, h5⟩ := hI.last h0
  rw [hq] at h3
  cases h3
  exact ⟨scan_same hI.inv hr hk h0 hq (by omega) (by omega), fun h => by omega, fun _ => ⟨r, by simpa using hr, h4, by rw [he]; exact h5⟩⟩
/-- The first k bytes of a piece, laid. -/
def layK (sh : List Sheet) (pg a : Int) (src : List (List AV)) (k : Nat) : List Sheet := updS sh pg.toNat fun s => (lay s.1 a.toNat (src.take k), s.2)
theorem lay_zero {b : List (List AV)} {a : Nat} : lay b a [] = b := by simp [lay]
theorem layK_zero {sh : List Sheet} {pg a : Int} {src : List (List AV)} : layK sh pg a src 0 = sh := by
  unfold layK updS
  split
  · rename_i s hs
    obtain ⟨h1, h2⟩ := List.getElem?_eq_some_iff.1 hs
    rw [List.take_zero]
    show sh.set pg.toNat (lay s.1 a.toNat [], s.2) = sh
    rw [lay_zero, ← h2]
    exact List.set_getElem_self h1
  · rfl
theorem layK_all {sh : List Sheet} {pg a : Int} {b : AV} {k : Nat} (h : (lrows b).length ≤ k) : layK sh pg a (lrows b) k = layP sh [.int .i64 pg, .int .i64 a, b] := by
  simp only [layK, layP, pPg, pAt, pBy, List.take_of_length_le h]
theorem lay_get {b src : List (List AV)} {a j : Nat} (h : a + src.length ≤ b.length) : (lay b a src)[j]? = if j < a then b[j]? else if j < a + src.length then src[j - a]? else b[j]? := by
  have h3 : (b.take a).length = a := by simp; omega
  simp only [lay, List.append_assoc]
  by_cases hj : j < a
  · rw [if_pos hj, List.getElem?_append_left (by omega), List.getElem?_take, if_pos hj]
  · rw [if_neg hj, List.getElem?_append_right (by omega), h3]
    by_cases hk : j < a + src.length
    · rw [if_pos hk, List.getElem?_append_left (by omega)]
    · rw [if_neg hk, List.getElem?_append_right (by omega), List.getElem?_drop]
      congr 1
      omega
theorem lay_next {b src : List (List AV)} {a k : Nat} {x : List AV} (hx : src[k]? = some x) (h : a + src.length ≤ b.length) : lay b a (src.take (k + 1)) = (lay b a (src.take k)).set (a + k) x := by
  have hk := (List.getElem?_eq_some_iff.1 hx).1
  have h1 : (src.take k).length = k := by simp; omega
  have h2 : (src.take (k + 1)).length = k + 1 := by simp; omega
  have hl : (lay b a (src.take k)).length = b.length := lay_length (by omega)
  apply List.ext_getElem?
  intro j
  rw [List.getElem?_set, lay_get (by omega), lay_get (by omega), h1, h2, hl, List.getElem?_take, List.getElem?_take]
  by_cases hj : j < a
  · rw [if_pos hj, if_neg (by omega), if_pos hj]
  · rw [if_neg hj]
    by_cases he : a + k = j
    · subst he
      rw [if_pos (by omega), if_pos (by omega), if_pos rfl, if_pos (by omega), show a + k - a = k by omega, hx]
    · rw [if_neg he, if_neg hj]
      by_cases hjk : j < a + k
      · rw [if_pos (by omega), if_pos (by omega), if_pos hjk, if_pos (by omega)]
      · rw [if_neg (by omega), if_neg hjk]
theorem layK_at {sh : List Sheet} {pg a : Int} {src : List (List AV)} {k : Nat} {s : Sheet} (h : sh[pg.toNat]? = some s) : (layK sh pg a src k)[pg.toNat]? = some (lay s.1 a.toNat (src.take k), s.2) := by
  unfold layK
  rw [updS_at h, List.getElem?_set_self (List.getElem?_eq_some_iff.1 h).1]
theorem WInv.byteStep {base Hx : Hp} {q L n : Nat} {locs : List Nat} {last0 : Int} {sh : List Sheet} {l k : Nat} {s : Sheet} {pg a : Int} {src : List (List AV)} {x : List AV} (h : WInv base Hx q L locs last0 n (layK sh pg a src k)) (hs : sh[pg.toNat]? = some s) (hl : locs[pg.toNat]? = some l) (hx : src[k]? = some x) (hb : a.toNat + src.length ≤ s.1.length) :
    WInv base (Hx.set l (.arr 5 1 ((lay s.1 a.toNat (src.take k)).set (a.toNat + k) x))) q L locs last0 n (layK sh pg a src (k + 1)) := by
  have e : layK sh pg a src (k + 1) = (layK sh pg a src k).set pg.toNat ((lay s.1 a.toNat (src.take k)).set (a.toNat + k) x, s.2) := by
    rw [← lay_next hx hb]
    unfold layK
    rw [updS_at hs, updS_at hs, List.set_set]
  rw [e]
  exact h.byte (s := (lay s.1 a.toNat (src.take k), s.2)) hl (layK_at hs) (by simp)

theorem nv_t6v {P : Program} {G : Glob} {md : Oper → Md} {ops : Array Oper} {r : List Oper} {env : List AV} {x0 x1 x2 x3 x4 x5 x6 x7 x8 x9 x10 x11 x12 x13 x14 x15 x16 x17 x18 x19 x20 x21 x22 x23 x24 x25 x26 x27 x28 x29 x30 x31 x32 x33 x34 x35 x36 x37 x38 x39 x40 x41 x42 x43 x44 x45 x46 x47 x48 x49 x50 x51 x52 x53 x54 x55 x56 x57 x58 x59 x60 x61 x62 x63 x64 x65 x66 x67 x68 x69 x70 x71 x72 x73 x74 x75 x76 x77 x78 x79 x80 x81 x82 x83 x84 x85 x86 x87 x88 x89 x90 x91 x92 : AV} {H : Hp} {K : List AV → Hp → Prop} (he : env = (x0 :: x1 :: x2 :: x3 :: x4 :: x5 :: x6 :: x7 :: x8 :: x9 :: x10 :: x11 :: x12 :: x13 :: x14 :: x15 :: x16 :: x17 :: x18 :: x19 :: x20 :: x21 :: x22 :: x23 :: x24 :: x25 :: x26 :: x27 :: x28 :: x29 :: x30 :: x31 :: x32 :: x33 :: x34 :: x35 :: x36 :: x37 :: x38 :: x39 :: x40 :: x41 :: x42 :: x43 :: x44 :: x45 :: x46 :: x47 :: x48 :: x49 :: x50 :: x51 :: x52 :: x53 :: x54 :: x55 :: x56 :: x57 :: x58 :: x59 :: x60 :: x61 :: x62 :: x63 :: x64 :: x65 :: x66 :: x67 :: x68 :: x69 :: x70 :: x71 :: x72 :: x73 :: x74 :: x75 :: x76 :: x77 :: x78 :: x79 :: x80 :: x81 :: x82 :: x83 :: x84 :: x85 :: x86 :: x87 :: x88 :: x89 :: x90 :: x91 :: x92 :: [])) (h : vops P G md ops r (x0 :: x1 :: x2 :: x3 :: x4 :: x5 :: x6 :: x7 :: x8 :: x9 :: x10 :: x11 :: x12 :: x13 :: x14 :: x15 :: x16 :: x17 :: x18 :: x19 :: x20 :: x21 :: x22 :: x23 :: x24 :: x25 :: x26 :: x27 :: x28 :: x29 :: x30 :: x31 :: x32 :: x33 :: x34 :: x35 :: x36 :: x37 :: x38 :: x39 :: x40 :: x41 :: x42 :: x43 :: x44 :: x45 :: x46 :: x47 :: x48 :: x49 :: x50 :: x51 :: x52 :: x53 :: x54 :: x55 :: x56 :: x57 :: x58 :: x59 :: x60 :: x61 :: x62 :: x63 :: x64 :: x65 :: x66 :: x67 :: x68 :: x69 :: x70 :: x71 :: x72 :: x73 :: x74 :: x75 :: x76 :: x77 :: x78 :: x79 :: x80 :: x81 :: x82 :: x83 :: x84 :: x85 :: x86 :: x87 :: x88 :: x89 :: x90 :: x91 :: x92 :: []) H K) : vops P G md ops r env H K := by rw [he]; exact h
theorem nd_t6v {P : Program} {G : Glob} {md : Oper → Md} {ops : Array Oper} {r : List Oper} {env : List AV} {x0 x1 x2 x3 x4 x5 x6 x7 x8 x9 x10 x11 x12 x13 x14 x15 x16 x17 x18 x19 x20 x21 x22 x23 x24 x25 x26 x27 x28 x29 x30 x31 x32 x33 x34 x35 x36 x37 x38 x39 x40 x41 x42 x43 x44 x45 x46 x47 x48 x49 x50 x51 x52 x53 x54 x55 x56 x57 x58 x59 x60 x61 x62 x63 x64 x65 x66 x67 x68 x69 x70 x71 x72 x73 x74 x75 x76 x77 x78 x79 x80 x81 x82 x83 x84 x85 x86 x87 x88 x89 x90 x91 x92 : AV} {H : Hp} {K : List AV → Hp → Prop} (he : env = (x0 :: x1 :: x2 :: x3 :: x4 :: x5 :: x6 :: x7 :: x8 :: x9 :: x10 :: x11 :: x12 :: x13 :: x14 :: x15 :: x16 :: x17 :: x18 :: x19 :: x20 :: x21 :: x22 :: x23 :: x24 :: x25 :: x26 :: x27 :: x28 :: x29 :: x30 :: x31 :: x32 :: x33 :: x34 :: x35 :: x36 :: x37 :: x38 :: x39 :: x40 :: x41 :: x42 :: x43 :: x44 :: x45 :: x46 :: x47 :: x48 :: x49 :: x50 :: x51 :: x52 :: x53 :: x54 :: x55 :: x56 :: x57 :: x58 :: x59 :: x60 :: x61 :: x62 :: x63 :: x64 :: x65 :: x66 :: x67 :: x68 :: x69 :: x70 :: x71 :: x72 :: x73 :: x74 :: x75 :: x76 :: x77 :: x78 :: x79 :: x80 :: x81 :: x82 :: x83 :: x84 :: x85 :: x86 :: x87 :: x88 :: x89 :: x90 :: x91 :: x92 :: [])) (h : vopsD P G md ops r (x0 :: x1 :: x2 :: x3 :: x4 :: x5 :: x6 :: x7 :: x8 :: x9 :: x10 :: x11 :: x12 :: x13 :: x14 :: x15 :: x16 :: x17 :: x18 :: x19 :: x20 :: x21 :: x22 :: x23 :: x24 :: x25 :: x26 :: x27 :: x28 :: x29 :: x30 :: x31 :: x32 :: x33 :: x34 :: x35 :: x36 :: x37 :: x38 :: x39 :: x40 :: x41 :: x42 :: x43 :: x44 :: x45 :: x46 :: x47 :: x48 :: x49 :: x50 :: x51 :: x52 :: x53 :: x54 :: x55 :: x56 :: x57 :: x58 :: x59 :: x60 :: x61 :: x62 :: x63 :: x64 :: x65 :: x66 :: x67 :: x68 :: x69 :: x70 :: x71 :: x72 :: x73 :: x74 :: x75 :: x76 :: x77 :: x78 :: x79 :: x80 :: x81 :: x82 :: x83 :: x84 :: x85 :: x86 :: x87 :: x88 :: x89 :: x90 :: x91 :: x92 :: []) H K) : vopsD P G md ops r env H K := by rw [he]; exact h
theorem t6v (G : Glob) (last0 last : Int) (pages l st : AV) (hL : IsL pages) (hv : pages.isVal = true) (hl : IsL l) (hS : IsL st) (hlen : (lrows pages).length < 9223372036854775808) (hll : (lrows l).length ≤ 1000) (hsl : (lrows st).length ≤ 1000) (hp : ∀ r ∈ lrows pages, PageOk r) (hpl : ∀ r ∈ lrows l, PieceOk r) (hps : ∀ r ∈ lrows st, ∃ k, r = [.int .i64 k]) (hval : validB last0 (lrows pages) = false) : Vi.Fn Tryd.prog G 6 [.agg [.int .i64 last0, pages], l, st, .int .i64 last] (errR 270) := by
  refine fn_body (fun o => match o.dst with | some 52 => .shr | _ => .iso) Tryd.func6 rfl ?_
  refine vc_norm (env' := (_ :: _ :: _ :: _ :: _ :: _ :: _ :: _ :: _ :: _ :: _ :: _ :: _ :: _ :: _ :: _ :: _ :: _ :: _ :: _ :: _ :: _ :: _ :: _ :: _ :: _ :: _ :: _ :: _ :: _ :: _ :: _ :: _ :: _ :: _ :: _ :: _ :: _ :: _ :: _ :: _ :: _ :: _ :: _ :: _ :: _ :: _ :: _ :: _ :: _ :: _ :: _ :: _ :: _ :: _ :: _ :: _ :: _ :: _ :: _ :: _ :: _ :: _ :: _ :: _ :: _ :: _ :: _ :: _ :: _ :: _ :: _ :: _ :: _ :: _ :: _ :: _ :: _ :: _ :: _ :: _ :: _ :: _ :: _ :: _ :: _ :: _ :: _ :: _ :: _ :: _ :: _ :: _ :: [])) (H' := []) rfl rfl ?_
  refine vc_seq ?_
  refine w_region ?_
  refine w_opH (v := .ptr 0 0 0) (env' := _) (H2 := [.arr 24 2 [[_, _]]]) rfl rfl rfl rfl (fun _ h => h) (nv_t6v rfl ?_)
  refine w_opH (v := .ptr 1 0 0) (env' := _) (H2 := [.arr 24 2 [[_, _]], .arr 3 1 [[_]]]) rfl rfl rfl rfl (fun _ h => h) (nv_t6v rfl ?_)
  refine w_opH (v := .ptr 2 0 0) (env' := _) (H2 := [.arr 24 2 [[_, _]], .arr 3 1 [[_]], .arr 24 2 [[_, _]]]) rfl rfl rfl rfl (fun _ h => h) (nv_t6v rfl ?_)
  refine w_opN (env' := _) rfl rfl rfl (fun _ h => h) (nv_t6v rfl ?_)
  refine w_end rfl ?_
  refine vc_seq ?_
  refine vc_seq ?_
  refine w_region ?_
  refine w_opN (v := .agg [_, _]) (env' := _) rfl rfl rfl (fun _ h => h) (nv_t6v rfl ?_)
  refine w_callI (env' := _) rfl rfl rfl (by kernel_rfl) rfl (by repeat' first | exact mapL_nil | exact IsL.lend (by assumption) | exact IsL.lend0 (by assumption) | refine mapL_cons ?_ ?_ | refine mapL_app ?_ ?_ | refine lend_agg ?_ | refine lend_cloG ?_ | exact lend0_ptr rfl rfl (by simp [isVal_int, isVal_bool, isVal_str, isVal_nils, isVal_loose, *]) | exact lend_ptr rfl rfl (by simp [isVal_int, isVal_bool, isVal_str, isVal_nils, isVal_loose, *]) | rfl) (t11 G last0 pages hL hv hlen (fun r hr => by obtain ⟨b, s, rfl, hb⟩ := hp r hr; exact ⟨b, s, rfl, hb.1⟩)) rfl (nv_t6v rfl ?_)
  refine w_opN (env' := _) rfl rfl rfl (fun _ h => h) (nv_t6v rfl ?_)
  refine w_end rfl ?_
  refine vc_cond rfl (fun hc19 => ?_) (fun hc19 => ?_)
  · skip
    refine vc_seq ?_
    refine w_region ?_
    refine w_opN (v := .agg [_, _]) (env' := _) rfl rfl rfl (fun _ h => h) (nv_t6v rfl ?_)
    refine w_op0N (H2 := [.arr 24 2 [[_, _]], .arr 3 1 [[_]], .arr 24 2 [[_, _]]]) rfl rfl rfl (fun _ h => h) ?_
    refine w_opN (env' := _) rfl rfl rfl (fun _ h => h) (nv_t6v rfl ?_)
    refine w_end rfl ?_
    refine vc_ret ?_
    refine r_then ?_
    refine r_fn rfl ?_
    -- return 0
    show retv _ _ = some (errR 270)
    rfl
  · skip
    rw [hval] at hc19
    cases hc19
theorem nv_t6a {P : Program} {G : Glob} {md : Oper → Md} {ops : Array Oper} {r : List Oper} {env : List AV} {x0 x1 x2 x3 x4 x5 x6 x7 x8 x9 x10 x11 x12 x13 x14 x15 x16 x17 x18 x19 x20 x21 x22 x23 x24 x25 x26 x27 x28 x29 x30 x31 x32 x33 x34 x35 x36 x37 x38 x39 x40 x41 x42 x43 x44 x45 x46 x47 x48 x49 x50 x51 x52 x53 x54 x55 x56 x57 x58 x59 x60 x61 x62 x63 x64 x65 x66 x67 x68 x69 x70 x71 x72 x73 x74 x75 x76 x77 x78 x79 x80 x81 x82 x83 x84 x85 x86 x87 x88 x89 x90 x91 x92 : AV} {H : Hp} {K : List AV → Hp → Prop} (he : env = (x0 :: x1 :: x2 :: x3 :: x4 :: x5 :: x6 :: x7 :: x8 :: x9 :: x10 :: x11 :: x12 :: x13 :: x14 :: x15 :: x16 :: x17 :: x18 :: x19 :: x20 :: x21 :: x22 :: x23 :: x24 :: x25 :: x26 :: x27 :: x28 :: x29 :: x30 :: x31 :: x32 :: x33 :: x34 :: x35 :: x36 :: x37 :: x38 :: x39 :: x40 :: x41 :: x42 :: x43 :: x44 :: x45 :: x46 :: x47 :: x48 :: x49 :: x50 :: x51 :: x52 :: x53 :: x54 :: x55 :: x56 :: x57 :: x58 :: x59 :: x60 :: x61 :: x62 :: x63 :: x64 :: x65 :: x66 :: x67 :: x68 :: x69 :: x70 :: x71 :: x72 :: x73 :: x74 :: x75 :: x76 :: x77 :: x78 :: x79 :: x80 :: x81 :: x82 :: x83 :: x84 :: x85 :: x86 :: x87 :: x88 :: x89 :: x90 :: x91 :: x92 :: [])) (h : vops P G md ops r (x0 :: x1 :: x2 :: x3 :: x4 :: x5 :: x6 :: x7 :: x8 :: x9 :: x10 :: x11 :: x12 :: x13 :: x14 :: x15 :: x16 :: x17 :: x18 :: x19 :: x20 :: x21 :: x22 :: x23 :: x24 :: x25 :: x26 :: x27 :: x28 :: x29 :: x30 :: x31 :: x32 :: x33 :: x34 :: x35 :: x36 :: x37 :: x38 :: x39 :: x40 :: x41 :: x42 :: x43 :: x44 :: x45 :: x46 :: x47 :: x48 :: x49 :: x50 :: x51 :: x52 :: x53 :: x54 :: x55 :: x56 :: x57 :: x58 :: x59 :: x60 :: x61 :: x62 :: x63 :: x64 :: x65 :: x66 :: x67 :: x68 :: x69 :: x70 :: x71 :: x72 :: x73 :: x74 :: x75 :: x76 :: x77 :: x78 :: x79 :: x80 :: x81 :: x82 :: x83 :: x84 :: x85 :: x86 :: x87 :: x88 :: x89 :: x90 :: x91 :: x92 :: []) H K) : vops P G md ops r env H K := by rw [he]; exact h
theorem nd_t6a {P : Program} {G : Glob} {md : Oper → Md} {ops : Array Oper} {r : List Oper} {env : List AV} {x0 x1 x2 x3 x4 x5 x6 x7 x8 x9 x10 x11 x12 x13 x14 x15 x16 x17 x18 x19 x20 x21 x22 x23 x24 x25 x26 x27 x28 x29 x30 x31 x32 x33 x34 x35 x36 x37 x38 x39 x40 x41 x42 x43 x44 x45 x46 x47 x48 x49 x50 x51 x52 x53 x54 x55 x56 x57 x58 x59 x60 x61 x62 x63 x64 x65 x66 x67 x68 x69 x70 x71 x72 x73 x74 x75 x76 x77 x78 x79 x80 x81 x82 x83 x84 x85 x86 x87 x88 x89 x90 x91 x92 : AV} {H : Hp} {K : List AV → Hp → Prop} (he : env = (x0 :: x1 :: x2 :: x3 :: x4 :: x5 :: x6 :: x7 :: x8 :: x9 :: x10 :: x11 :: x12 :: x13 :: x14 :: x15 :: x16 :: x17 :: x18 :: x19 :: x20 :: x21 :: x22 :: x23 :: x24 :: x25 :: x26 :: x27 :: x28 :: x29 :: x30 :: x31 :: x32 :: x33 :: x34 :: x35 :: x36 :: x37 :: x38 :: x39 :: x40 :: x41 :: x42 :: x43 :: x44 :: x45 :: x46 :: x47 :: x48 :: x49 :: x50 :: x51 :: x52 :: x53 :: x54 :: x55 :: x56 :: x57 :: x58 :: x59 :: x60 :: x61 :: x62 :: x63 :: x64 :: x65 :: x66 :: x67 :: x68 :: x69 :: x70 :: x71 :: x72 :: x73 :: x74 :: x75 :: x76 :: x77 :: x78 :: x79 :: x80 :: x81 :: x82 :: x83 :: x84 :: x85 :: x86 :: x87 :: x88 :: x89 :: x90 :: x91 :: x92 :: [])) (h : vopsD P G md ops r (x0 :: x1 :: x2 :: x3 :: x4 :: x5 :: x6 :: x7 :: x8 :: x9 :: x10 :: x11 :: x12 :: x13 :: x14 :: x15 :: x16 :: x17 :: x18 :: x19 :: x20 :: x21 :: x22 :: x23 :: x24 :: x25 :: x26 :: x27 :: x28 :: x29 :: x30 :: x31 :: x32 :: x33 :: x34 :: x35 :: x36 :: x37 :: x38 :: x39 :: x40 :: x41 :: x42 :: x43 :: x44 :: x45 :: x46 :: x47 :: x48 :: x49 :: x50 :: x51 :: x52 :: x53 :: x54 :: x55 :: x56 :: x57 :: x58 :: x59 :: x60 :: x61 :: x62 :: x63 :: x64 :: x65 :: x66 :: x67 :: x68 :: x69 :: x70 :: x71 :: x72 :: x73 :: x74 :: x75 :: x76 :: x77 :: x78 :: x79 :: x80 :: x81 :: x82 :: x83 :: x84 :: x85 :: x86 :: x87 :: x88 :: x89 :: x90 :: x91 :: x92 :: []) H K) : vopsD P G md ops r env H K := by rw [he]; exact h
theorem t6a (G : Glob) (last0 last : Int) (pages l st : AV) (hL : IsL pages) (hv : pages.isVal = true) (hl : IsL l) (hS : IsL st) (hlen : (lrows pages).length < 9223372036854775808) (hll : (lrows l).length ≤ 1000) (hsl : (lrows st).length ≤ 1000) (hp : ∀ r ∈ lrows pages, PageOk r) (hpl : ∀ r ∈ lrows l, PieceOk r) (hps : ∀ r ∈ lrows st, ∃ k, r = [.int .i64 k]) (hval : validB last0 (lrows pages) = true) (hsc : scan none (lrows l) = none) : Vi.Fn Tryd.prog G 6 [.agg [.int .i64 last0, pages], l, st, .int .i64 last] (errR 2) := by
  have h12 : Vi.Fn Tryd.prog G 12 [l] (.tup [.nils, .bool false]) := by
    have := t12 G l hl hll hpl
    rw [pieces, hsc] at this
    exact this
  refine fn_body (fun o => match o.dst with | some 52 => .shr | _ => .iso) Tryd.func6 rfl ?_
  refine vc_norm (env' := (_ :: _ :: _ :: _ :: _ :: _ :: _ :: _ :: _ :: _ :: _ :: _ :: _ :: _ :: _ :: _ :: _ :: _ :: _ :: _ :: _ :: _ :: _ :: _ :: _ :: _ :: _ :: _ :: _ :: _ :: _ :: _ :: _ :: _ :: _ :: _ :: _ :: _ :: _ :: _ :: _ :: _ :: _ :: _ :: _ :: _ :: _ :: _ :: _ :: _ :: _ :: _ :: _ :: _ :: _ :: _ :: _ :: _ :: _ :: _ :: _ :: _ :: _ :: _ :: _ :: _ :: _ :: _ :: _ :: _ :: _ :: _ :: _ :: _ :: _ :: _ :: _ :: _ :: _ :: _ :: _ :: _ :: _ :: _ :: _ :: _ :: _ :: _ :: _ :: _ :: _ :: _ :: _ :: [])) (H' := []) rfl rfl ?_
  refine vc_seq ?_
  refine w_region ?_
  refine w_opH (v := .ptr 0 0 0) (env' := _) (H2 := [.arr 24 2 [[_, _]]]) rfl rfl rfl rfl (fun _ h => h) (nv_t6a rfl ?_)
  refine w_opH (v := .ptr 1 0 0) (env' := _) (H2 := [.arr 24 2 [[_, _]], .arr 3 1 [[_]]]) rfl rfl rfl rfl (fun _ h => h) (nv_t6a rfl ?_)
  refine w_opH (v := .ptr 2 0 0) (env' := _) (H2 := [.arr 24 2 [[_, _]], .arr 3 1 [[_]], .arr 24 2 [[_, _]]]) rfl rfl rfl rfl (fun _ h => h) (nv_t6a rfl ?_)
  refine w_opN (env' := _) rfl rfl rfl (fun _ h => h) (nv_t6a rfl ?_)
  refine w_end rfl ?_
  refine vc_seq ?_
  refine vc_seq ?_
  refine w_region ?_
  refine w_opN (v := .agg [_, _]) (env' := _) rfl rfl rfl (fun _ h => h) (nv_t6a rfl ?_)
  refine w_callI (env' := _) rfl rfl rfl (by kernel_rfl) rfl (by repeat' first | exact mapL_nil | exact IsL.lend (by assumption) | exact IsL.lend0 (by assumption) | refine mapL_cons ?_ ?_ | refine mapL_app ?_ ?_ | refine lend_agg ?_ | refine lend_cloG ?_ | exact lend0_ptr rfl rfl (by simp [isVal_int, isVal_bool, isVal_str, isVal_nils, isVal_loose, *]) | exact lend_ptr rfl rfl (by simp [isVal_int, isVal_bool, isVal_str, isVal_nils, isVal_loose, *]) | rfl) (t11 G last0 pages hL hv hlen (fun r hr => by obtain ⟨b, s, rfl, hb⟩ := hp r hr; exact ⟨b, s, rfl, hb.1⟩)) rfl (nv_t6a rfl ?_)
  refine w_opN (env' := _) rfl rfl rfl (fun _ h => h) (nv_t6a rfl ?_)
  refine w_end rfl ?_
  refine vc_cond rfl (fun hc19 => ?_) (fun hc19 => ?_)
  · skip
    rw [hval] at hc19
    cases hc19
  · skip
    refine vc_skip ?_
    refine n_then ?_
    refine vc_seq ?_
    refine w_region ?_
    refine w_opN (env' := _) rfl rfl rfl (fun _ h => h) (nv_t6a rfl ?_)
    refine w_callI (env' := _) rfl rfl rfl (by kernel_rfl) rfl (by repeat' first | exact mapL_nil | exact IsL.lend (by assumption) | exact IsL.lend0 (by assumption) | refine mapL_cons ?_ ?_ | refine mapL_app ?_ ?_ | refine lend_agg ?_ | refine lend_cloG ?_ | exact lend0_ptr rfl rfl (by simp [isVal_int, isVal_bool, isVal_str, isVal_nils, isVal_loose, *]) | exact lend_ptr rfl rfl (by simp [isVal_int, isVal_bool, isVal_str, isVal_nils, isVal_loose, *]) | rfl) (h12) rfl (nv_t6a rfl ?_)
    refine w_opN (env' := _) rfl rfl rfl (fun _ h => h) (nv_t6a rfl ?_)
    refine w_opN (env' := _) rfl rfl rfl (fun _ h => h) (nv_t6a rfl ?_)
    refine w_opN (env' := _) rfl rfl rfl (fun _ h => h) (nv_t6a rfl ?_)
    refine w_opN (env' := _) rfl rfl rfl (fun _ h => h) (nv_t6a rfl ?_)
    refine w_opN (env' := _) rfl rfl rfl (fun _ h => h) (nv_t6a rfl ?_)
    refine w_end rfl ?_
    refine vc_seq ?_
    refine vc_seq ?_
    refine w_region ?_
    refine w_opN (env' := _) rfl rfl rfl (fun _ h => h) (nv_t6a rfl ?_)
    refine w_opN (env' := _) rfl rfl rfl (fun _ h => h) (nv_t6a rfl ?_)
    refine w_opN (env' := _) rfl rfl rfl (fun _ h => h) (nv_t6a rfl ?_)
    refine w_split 28 rfl (fun hg28 => ?_) (fun hg28 => ?_)
    · skip
      refine w_norm (env' := (_ :: _ :: _ :: _ :: _ :: _ :: _ :: _ :: _ :: _ :: _ :: _ :: _ :: _ :: _ :: _ :: _ :: _ :: _ :: _ :: _ :: _ :: _ :: _ :: _ :: _ :: _ :: _ :: _ :: _ :: _ :: _ :: _ :: _ :: _ :: _ :: _ :: _ :: _ :: _ :: _ :: _ :: _ :: _ :: _ :: _ :: _ :: _ :: _ :: _ :: _ :: _ :: _ :: _ :: _ :: _ :: _ :: _ :: _ :: _ :: _ :: _ :: _ :: _ :: _ :: _ :: _ :: _ :: _ :: _ :: _ :: _ :: _ :: _ :: _ :: _ :: _ :: _ :: _ :: _ :: _ :: _ :: _ :: _ :: _ :: _ :: _ :: _ :: _ :: _ :: _ :: _ :: _ :: [])) (H' := [.arr 24 2 [[_, _]], .arr 3 1 [[_]], .arr 24 2 [[_, _]]]) rfl rfl ?_
      refine w_skipN (env' := _) (wanted_f 28 (by kernel_rfl) rfl) rfl (nv_t6a rfl ?_)
      refine w_skipN (env' := _) (wanted_f 28 (by kernel_rfl) rfl) rfl (nv_t6a rfl ?_)
      refine w_skipN (env' := _) (wanted_f 28 (by kernel_rfl) rfl) rfl (nv_t6a rfl ?_)
      refine w_skipN (env' := _) (wanted_f 28 (by kernel_rfl) rfl) rfl (nv_t6a rfl ?_)
      refine w_skipN (env' := _) (wanted_f 28 (by kernel_rfl) rfl) rfl (nv_t6a rfl ?_)
      refine w_opN (env' := _) rfl rfl rfl (fun _ h => h) (nv_t6a rfl ?_)
      refine w_opN (env' := _) rfl rfl rfl (fun _ h => h) (nv_t6a rfl ?_)
      refine w_skipN (env' := _) (wanted_f 35 (by kernel_rfl) rfl) rfl (nv_t6a rfl ?_)
      refine w_skipN (env' := _) (wanted_f 35 (by kernel_rfl) rfl) rfl (nv_t6a rfl ?_)
      refine w_skipN (env' := _) (wanted_f 35 (by kernel_rfl) rfl) rfl (nv_t6a rfl ?_)
      refine w_skipN (env' := _) (wanted_f 35 (by kernel_rfl) rfl) rfl (nv_t6a rfl ?_)
      refine w_opN (env' := _) rfl rfl rfl (fun _ h => h) (nv_t6a rfl ?_)
      refine w_opN (env' := _) rfl rfl rfl (fun _ h => h) (nv_t6a rfl ?_)
      refine w_skipN (env' := _) (wanted_f 41 (by kernel_rfl) rfl) rfl (nv_t6a rfl ?_)
      refine w_skipN (env' := _) (wanted_f 41 (by kernel_rfl) rfl) rfl (nv_t6a rfl ?_)
      refine w_opN (env' := _) rfl rfl rfl (fun _ h => h) (nv_t6a rfl ?_)
      refine w_opN (env' := _) rfl rfl rfl (fun _ h => h) (nv_t6a rfl ?_)
      refine w_skipN (env' := _) (wanted_f 45 (by kernel_rfl) rfl) rfl (nv_t6a rfl ?_)
      refine w_skipN (env' := _) (wanted_f 45 (by kernel_rfl) rfl) rfl (nv_t6a rfl ?_)
      refine w_skipN (env' := _) (wanted_f 45 (by kernel_rfl) rfl) rfl (nv_t6a rfl ?_)
      refine w_opN (env' := _) rfl rfl rfl (fun _ h => h) (nv_t6a rfl ?_)
      refine w_end rfl ?_
      refine vc_true rfl ?_
      refine vc_seq ?_
      refine w_region ?_
      refine w_opN (v := .agg [_, _]) (env' := _) rfl rfl rfl (fun _ h => h) (nv_t6a rfl ?_)
      refine w_op0N (H2 := [.arr 24 2 [[_, _]], .arr 3 1 [[_]], .arr 24 2 [[_, _]]]) rfl rfl rfl (fun _ h => h) ?_
      refine w_opN (env' := _) rfl rfl rfl (fun _ h => h) (nv_t6a rfl ?_)
      refine w_end rfl ?_
      refine vc_ret ?_
      refine r_then ?_
      refine r_fn rfl ?_
      -- return 0
      show retv _ _ = some (errR 2)
      rfl
    · skip
      cases hg28
theorem nv_t6c {P : Program} {G : Glob} {md : Oper → Md} {ops : Array Oper} {r : List Oper} {env : List AV} {x0 x1 x2 x3 x4 x5 x6 x7 x8 x9 x10 x11 x12 x13 x14 x15 x16 x17 x18 x19 x20 x21 x22 x23 x24 x25 x26 x27 x28 x29 x30 x31 x32 x33 x34 x35 x36 x37 x38 x39 x40 x41 x42 x43 x44 x45 x46 x47 x48 x49 x50 x51 x52 x53 x54 x55 x56 x57 x58 x59 x60 x61 x62 x63 x64 x65 x66 x67 x68 x69 x70 x71 x72 x73 x74 x75 x76 x77 x78 x79 x80 x81 x82 x83 x84 x85 x86 x87 x88 x89 x90 x91 x92 : AV} {H : Hp} {K : List AV → Hp → Prop} (he : env = (x0 :: x1 :: x2 :: x3 :: x4 :: x5 :: x6 :: x7 :: x8 :: x9 :: x10 :: x11 :: x12 :: x13 :: x14 :: x15 :: x16 :: x17 :: x18 :: x19 :: x20 :: x21 :: x22 :: x23 :: x24 :: x25 :: x26 :: x27 :: x28 :: x29 :: x30 :: x31 :: x32 :: x33 :: x34 :: x35 :: x36 :: x37 :: x38 :: x39 :: x40 :: x41 :: x42 :: x43 :: x44 :: x45 :: x46 :: x47 :: x48 :: x49 :: x50 :: x51 :: x52 :: x53 :: x54 :: x55 :: x56 :: x57 :: x58 :: x59 :: x60 :: x61 :: x62 :: x63 :: x64 :: x65 :: x66 :: x67 :: x68 :: x69 :: x70 :: x71 :: x72 :: x73 :: x74 :: x75 :: x76 :: x77 :: x78 :: x79 :: x80 :: x81 :: x82 :: x83 :: x84 :: x85 :: x86 :: x87 :: x88 :: x89 :: x90 :: x91 :: x92 :: [])) (h : vops P G md ops r (x0 :: x1 :: x2 :: x3 :: x4 :: x5 :: x6 :: x7 :: x8 :: x9 :: x10 :: x11 :: x12 :: x13 :: x14 :: x15 :: x16 :: x17 :: x18 :: x19 :: x20 :: x21 :: x22 :: x23 :: x24 :: x25 :: x26 :: x27 :: x28 :: x29 :: x30 :: x31 :: x32 :: x33 :: x34 :: x35 :: x36 :: x37 :: x38 :: x39 :: x40 :: x41 :: x42 :: x43 :: x44 :: x45 :: x46 :: x47 :: x48 :: x49 :: x50 :: x51 :: x52 :: x53 :: x54 :: x55 :: x56 :: x57 :: x58 :: x59 :: x60 :: x61 :: x62 :: x63 :: x64 :: x65 :: x66 :: x67 :: x68 :: x69 :: x70 :: x71 :: x72 :: x73 :: x74 :: x75 :: x76 :: x77 :: x78 :: x79 :: x80 :: x81 :: x82 :: x83 :: x84 :: x85 :: x86 :: x87 :: x88 :: x89 :: x90 :: x91 :: x92 :: []) H K) : vops P G md ops r env H K := by rw [he]; exact h
theorem nd_t6c {P : Program} {G : Glob} {md : Oper → Md} {ops : Array Oper} {r : List Oper} {env : List AV} {x0 x1 x2 x3 x4 x5 x6 x7 x8 x9 x10 x11 x12 x13 x14 x15 x16 x17 x18 x19 x20 x21 x22 x23 x24 x25 x26 x27 x28 x29 x30 x31 x32 x33 x34 x35 x36 x37 x38 x39 x40 x41 x42 x43 x44 x45 x46 x47 x48 x49 x50 x51 x52 x53 x54 x55 x56 x57 x58 x59 x60 x61 x62 x63 x64 x65 x66 x67 x68 x69 x70 x71 x72 x73 x74 x75 x76 x77 x78 x79 x80 x81 x82 x83 x84 x85 x86 x87 x88 x89 x90 x91 x92 : AV} {H : Hp} {K : List AV → Hp → Prop} (he : env = (x0 :: x1 :: x2 :: x3 :: x4 :: x5 :: x6 :: x7 :: x8 :: x9 :: x10 :: x11 :: x12 :: x13 :: x14 :: x15 :: x16 :: x17 :: x18 :: x19 :: x20 :: x21 :: x22 :: x23 :: x24 :: x25 :: x26 :: x27 :: x28 :: x29 :: x30 :: x31 :: x32 :: x33 :: x34 :: x35 :: x36 :: x37 :: x38 :: x39 :: x40 :: x41 :: x42 :: x43 :: x44 :: x45 :: x46 :: x47 :: x48 :: x49 :: x50 :: x51 :: x52 :: x53 :: x54 :: x55 :: x56 :: x57 :: x58 :: x59 :: x60 :: x61 :: x62 :: x63 :: x64 :: x65 :: x66 :: x67 :: x68 :: x69 :: x70 :: x71 :: x72 :: x73 :: x74 :: x75 :: x76 :: x77 :: x78 :: x79 :: x80 :: x81 :: x82 :: x83 :: x84 :: x85 :: x86 :: x87 :: x88 :: x89 :: x90 :: x91 :: x92 :: [])) (h : vopsD P G md ops r (x0 :: x1 :: x2 :: x3 :: x4 :: x5 :: x6 :: x7 :: x8 :: x9 :: x10 :: x11 :: x12 :: x13 :: x14 :: x15 :: x16 :: x17 :: x18 :: x19 :: x20 :: x21 :: x22 :: x23 :: x24 :: x25 :: x26 :: x27 :: x28 :: x29 :: x30 :: x31 :: x32 :: x33 :: x34 :: x35 :: x36 :: x37 :: x38 :: x39 :: x40 :: x41 :: x42 :: x43 :: x44 :: x45 :: x46 :: x47 :: x48 :: x49 :: x50 :: x51 :: x52 :: x53 :: x54 :: x55 :: x56 :: x57 :: x58 :: x59 :: x60 :: x61 :: x62 :: x63 :: x64 :: x65 :: x66 :: x67 :: x68 :: x69 :: x70 :: x71 :: x72 :: x73 :: x74 :: x75 :: x76 :: x77 :: x78 :: x79 :: x80 :: x81 :: x82 :: x83 :: x84 :: x85 :: x86 :: x87 :: x88 :: x89 :: x90 :: x91 :: x92 :: []) H K) : vopsD P G md ops r env H K := by rw [he]; exact h
theorem t6c (G : Glob) (last0 last : Int) (pages l st : AV) (hL : IsL pages) (hv : pages.isVal = true) (hl : IsL l) (hS : IsL st) (hlen : (lrows pages).length < 9223372036854775808) (hll : (lrows l).length ≤ 1000) (hsl : (lrows st).length ≤ 1000) (hp : ∀ r ∈ lrows pages, PageOk r) (hpl : ∀ r ∈ lrows l, PieceOk r) (hps : ∀ r ∈ lrows st, ∃ k, r = [.int .i64 k]) (hval : validB last0 (lrows pages) = true) (pgs : List (List AV)) (hsc : scan none (lrows l) = some pgs) (hbad : badW last0 last pgs (lrows st) = true) : Vi.Fn Tryd.prog G 6 [.agg [.int .i64 last0, pages], l, st, .int .i64 last] (errR 2) := by
  have h12 : Vi.Fn Tryd.prog G 12 [l] (.tup [plist pgs, .bool true]) := by
    have := t12 G l hl hll hpl
    rw [pieces, hsc] at this
    exact this
  have hPL : IsL (plist pgs) := IsL_plist
  refine fn_body (fun o => match o.dst with | some 52 => .shr | _ => .iso) Tryd.func6 rfl ?_
  refine vc_norm (env' := (_ :: _ :: _ :: _ :: _ :: _ :: _ :: _ :: _ :: _ :: _ :: _ :: _ :: _ :: _ :: _ :: _ :: _ :: _ :: _ :: _ :: _ :: _ :: _ :: _ :: _ :: _ :: _ :: _ :: _ :: _ :: _ :: _ :: _ :: _ :: _ :: _ :: _ :: _ :: _ :: _ :: _ :: _ :: _ :: _ :: _ :: _ :: _ :: _ :: _ :: _ :: _ :: _ :: _ :: _ :: _ :: _ :: _ :: _ :: _ :: _ :: _ :: _ :: _ :: _ :: _ :: _ :: _ :: _ :: _ :: _ :: _ :: _ :: _ :: _ :: _ :: _ :: _ :: _ :: _ :: _ :: _ :: _ :: _ :: _ :: _ :: _ :: _ :: _ :: _ :: _ :: _ :: _ :: [])) (H' := []) rfl rfl ?_
  refine vc_seq ?_
  refine w_region ?_
  refine w_opH (v := .ptr 0 0 0) (env' := _) (H2 := [.arr 24 2 [[_, _]]]) rfl rfl rfl rfl (fun _ h => h) (nv_t6c rfl ?_)
  refine w_opH (v := .ptr 1 0 0) (env' := _) (H2 := [.arr 24 2 [[_, _]], .arr 3 1 [[_]]]) rfl rfl rfl rfl (fun _ h => h) (nv_t6c rfl ?_)
  refine w_opH (v := .ptr 2 0 0) (env' := _) (H2 := [.arr 24 2 [[_, _]], .arr 3 1 [[_]], .arr 24 2 [[_, _]]]) rfl rfl rfl rfl (fun _ h => h) (nv_t6c rfl ?_)
  refine w_opN (env' := _) rfl rfl rfl (fun _ h => h) (nv_t6c rfl ?_)
  refine w_end rfl ?_
  refine vc_seq ?_
  refine vc_seq ?_
  refine w_region ?_
  refine w_opN (v := .agg [_, _]) (env' := _) rfl rfl rfl (fun _ h => h) (nv_t6c rfl ?_)
  refine w_callI (env' := _) rfl rfl rfl (by kernel_rfl) rfl (by repeat' first | exact mapL_nil | exact IsL.lend (by assumption) | exact IsL.lend0 (by assumption) | refine mapL_cons ?_ ?_ | refine mapL_app ?_ ?_ | refine lend_agg ?_ | refine lend_cloG ?_ | exact lend0_ptr rfl rfl (by simp [isVal_int, isVal_bool, isVal_str, isVal_nils, isVal_loose, *]) | exact lend_ptr rfl rfl (by simp [isVal_int, isVal_bool, isVal_str, isVal_nils, isVal_loose, *]) | rfl) (t11 G last0 pages hL hv hlen (fun r hr => by obtain ⟨b, s, rfl, hb⟩ := hp r hr; exact ⟨b, s, rfl, hb.1⟩)) rfl (nv_t6c rfl ?_)
  refine w_opN (env' := _) rfl rfl rfl (fun _ h => h) (nv_t6c rfl ?_)
  refine w_end rfl ?_
  refine vc_cond rfl (fun hc19 => ?_) (fun hc19 => ?_)
  · skip
    rw [hval] at hc19
    cases hc19
  · skip
    refine vc_skip ?_
    refine n_then ?_
    refine vc_seq ?_
    refine w_region ?_
    refine w_opN (env' := _) rfl rfl rfl (fun _ h => h) (nv_t6c rfl ?_)
    refine w_callI (env' := _) rfl rfl rfl (by kernel_rfl) rfl (by repeat' first | exact mapL_nil | exact IsL.lend (by assumption) | exact IsL.lend0 (by assumption) | refine mapL_cons ?_ ?_ | refine mapL_app ?_ ?_ | refine lend_agg ?_ | refine lend_cloG ?_ | exact lend0_ptr rfl rfl (by simp [isVal_int, isVal_bool, isVal_str, isVal_nils, isVal_loose, *]) | exact lend_ptr rfl rfl (by simp [isVal_int, isVal_bool, isVal_str, isVal_nils, isVal_loose, *]) | rfl) (h12) rfl (nv_t6c rfl ?_)
    refine w_opN (env' := _) rfl rfl rfl (fun _ h => h) (nv_t6c rfl ?_)
    refine w_opN (env' := _) rfl rfl rfl (fun _ h => h) (nv_t6c rfl ?_)
    refine w_opN (env' := _) rfl rfl rfl (fun _ h => h) (nv_t6c rfl ?_)
    refine w_opN (env' := _) rfl rfl rfl (fun _ h => h) (nv_t6c rfl ?_)
    refine w_opN (env' := _) rfl rfl rfl (fun _ h => h) (nv_t6c rfl ?_)
    refine w_end rfl ?_
    refine vc_seq ?_
    refine vc_seq ?_
    refine w_region ?_
    refine w_opN (env' := _) rfl rfl rfl (fun _ h => h) (nv_t6c rfl ?_)
    refine w_opN (env' := _) rfl rfl rfl (fun _ h => h) (nv_t6c rfl ?_)
    refine w_opN (env' := _) rfl rfl rfl (fun _ h => h) (nv_t6c rfl ?_)
    refine w_split 28 rfl (fun hg28 => ?_) (fun hg28 => ?_)
    · skip
      cases hg28
    · skip
      refine w_norm (env' := (_ :: _ :: _ :: _ :: _ :: _ :: _ :: _ :: _ :: _ :: _ :: _ :: _ :: _ :: _ :: _ :: _ :: _ :: _ :: _ :: _ :: _ :: _ :: _ :: _ :: _ :: _ :: _ :: _ :: _ :: _ :: _ :: _ :: _ :: _ :: _ :: _ :: _ :: _ :: _ :: _ :: _ :: _ :: _ :: _ :: _ :: _ :: _ :: _ :: _ :: _ :: _ :: _ :: _ :: _ :: _ :: _ :: _ :: _ :: _ :: _ :: _ :: _ :: _ :: _ :: _ :: _ :: _ :: _ :: _ :: _ :: _ :: _ :: _ :: _ :: _ :: _ :: _ :: _ :: _ :: _ :: _ :: _ :: _ :: _ :: _ :: _ :: _ :: _ :: _ :: _ :: _ :: _ :: [])) (H' := [.arr 24 2 [[_, _]], .arr 3 1 [[_]], .arr 24 2 [[_, _]]]) rfl rfl ?_
      refine w_opN (env' := _) (wanted_t 28 (by kernel_rfl) rfl) rfl rfl (fun _ h => h) (nv_t6c rfl ?_)
      first | refine w_opN (env' := _) (wanted_t 28 (by kernel_rfl) rfl) rfl rfl (fun _ h => h) (nv_t6c rfl ?_) | refine x_len (env' := _) (wanted_t 28 (by kernel_rfl) rfl) rfl (by assumption) Tryd.underlying26 rfl (nv_t6c rfl ?_)
      refine w_opN (env' := _) (wanted_t 28 (by kernel_rfl) rfl) rfl rfl (fun _ h => h) (nv_t6c rfl ?_)
      first | refine w_opN (env' := _) (wanted_t 28 (by kernel_rfl) rfl) rfl rfl (fun _ h => h) (nv_t6c rfl ?_) | refine x_len (env' := _) (wanted_t 28 (by kernel_rfl) rfl) rfl (by assumption) Tryd.underlying26 rfl (nv_t6c rfl ?_)
      refine w_opN (env' := _) (wanted_t 28 (by kernel_rfl) rfl) rfl rfl (fun _ h => h) (nv_t6c rfl ?_)
      refine w_opN (env' := _) rfl rfl rfl (fun _ h => h) (nv_t6c rfl ?_)
      refine w_opN (env' := _) rfl rfl rfl (fun _ h => h) (nv_t6c rfl ?_)
      refine w_split 35 rfl (fun hg35 => ?_) (fun hg35 => ?_)
      · skip
        refine w_norm (env' := (_ :: _ :: _ :: _ :: _ :: _ :: _ :: _ :: _ :: _ :: _ :: _ :: _ :: _ :: _ :: _ :: _ :: _ :: _ :: _ :: _ :: _ :: _ :: _ :: _ :: _ :: _ :: _ :: _ :: _ :: _ :: _ :: _ :: _ :: _ :: _ :: _ :: _ :: _ :: _ :: _ :: _ :: _ :: _ :: _ :: _ :: _ :: _ :: _ :: _ :: _ :: _ :: _ :: _ :: _ :: _ :: _ :: _ :: _ :: _ :: _ :: _ :: _ :: _ :: _ :: _ :: _ :: _ :: _ :: _ :: _ :: _ :: _ :: _ :: _ :: _ :: _ :: _ :: _ :: _ :: _ :: _ :: _ :: _ :: _ :: _ :: _ :: _ :: _ :: _ :: _ :: _ :: _ :: [])) (H' := [.arr 24 2 [[_, _]], .arr 3 1 [[_]], .arr 24 2 [[_, _]]]) rfl rfl ?_
        refine w_skipN (env' := _) (wanted_f 35 (by kernel_rfl) rfl) rfl (nv_t6c rfl ?_)
        refine w_skipN (env' := _) (wanted_f 35 (by kernel_rfl) rfl) rfl (nv_t6c rfl ?_)
        refine w_skipN (env' := _) (wanted_f 35 (by kernel_rfl) rfl) rfl (nv_t6c rfl ?_)
        refine w_skipN (env' := _) (wanted_f 35 (by kernel_rfl) rfl) rfl (nv_t6c rfl ?_)
        refine w_opN (env' := _) rfl rfl rfl (fun _ h => h) (nv_t6c rfl ?_)
        refine w_opN (env' := _) rfl rfl rfl (fun _ h => h) (nv_t6c rfl ?_)
        refine w_skipN (env' := _) (wanted_f 41 (by kernel_rfl) rfl) rfl (nv_t6c rfl ?_)
        refine w_skipN (env' := _) (wanted_f 41 (by kernel_rfl) rfl) rfl (nv_t6c rfl ?_)
        refine w_opN (env' := _) rfl rfl rfl (fun _ h => h) (nv_t6c rfl ?_)
        refine w_opN (env' := _) rfl rfl rfl (fun _ h => h) (nv_t6c rfl ?_)
        refine w_skipN (env' := _) (wanted_f 45 (by kernel_rfl) rfl) rfl (nv_t6c rfl ?_)
        refine w_skipN (env' := _) (wanted_f 45 (by kernel_rfl) rfl) rfl (nv_t6c rfl ?_)
        refine w_skipN (env' := _) (wanted_f 45 (by kernel_rfl) rfl) rfl (nv_t6c rfl ?_)
        refine w_opN (env' := _) rfl rfl rfl (fun _ h => h) (nv_t6c rfl ?_)
        refine w_end rfl ?_
        refine vc_true rfl ?_
        refine vc_seq ?_
        refine w_region ?_
        refine w_opN (v := .agg [_, _]) (env' := _) rfl rfl rfl (fun _ h => h) (nv_t6c rfl ?_)
        refine w_op0N (H2 := [.arr 24 2 [[_, _]], .arr 3 1 [[_]], .arr 24 2 [[_, _]]]) rfl rfl rfl (fun _ h => h) ?_
        refine w_opN (env' := _) rfl rfl rfl (fun _ h => h) (nv_t6c rfl ?_)
        refine w_end rfl ?_
        refine vc_ret ?_
        refine r_then ?_
        refine r_fn rfl ?_
        -- return 0
        show retv _ _ = some (errR 2)
        rfl
      · skip
        refine w_norm (env' := (_ :: _ :: _ :: _ :: _ :: _ :: _ :: _ :: _ :: _ :: _ :: _ :: _ :: _ :: _ :: _ :: _ :: _ :: _ :: _ :: _ :: _ :: _ :: _ :: _ :: _ :: _ :: _ :: _ :: _ :: _ :: _ :: _ :: _ :: _ :: _ :: _ :: _ :: _ :: _ :: _ :: _ :: _ :: _ :: _ :: _ :: _ :: _ :: _ :: _ :: _ :: _ :: _ :: _ :: _ :: _ :: _ :: _ :: _ :: _ :: _ :: _ :: _ :: _ :: _ :: _ :: _ :: _ :: _ :: _ :: _ :: _ :: _ :: _ :: _ :: _ :: _ :: _ :: _ :: _ :: _ :: _ :: _ :: _ :: _ :: _ :: _ :: _ :: _ :: _ :: _ :: _ :: _ :: [])) (H' := [.arr 24 2 [[_, _]], .arr 3 1 [[_]], .arr 24 2 [[_, _]]]) rfl rfl ?_
        refine w_opN (env' := _) (wanted_t 35 (by kernel_rfl) rfl) rfl rfl (fun _ h => h) (nv_t6c rfl ?_)
        refine w_opN (v := .ptr 0 0 0) (env' := _) (wanted_t 35 (by kernel_rfl) rfl) rfl rfl (fun _ h => h) (nv_t6c rfl ?_)
        refine w_opN (env' := _) (wanted_t 35 (by kernel_rfl) rfl) rfl rfl (fun _ h => h) (nv_t6c rfl ?_)
        refine w_opN (env' := _) (wanted_t 35 (by kernel_rfl) rfl) rfl rfl (fun _ h => h) (nv_t6c rfl ?_)
        refine w_opN (env' := _) rfl rfl rfl (fun _ h => h) (nv_t6c rfl ?_)
        refine w_opN (env' := _) rfl rfl rfl (fun _ h => h) (nv_t6c rfl ?_)
        refine w_split 41 rfl (fun hg41 => ?_) (fun hg41 => ?_)
        · skip
          refine w_norm (env' := (_ :: _ :: _ :: _ :: _ :: _ :: _ :: _ :: _ :: _ :: _ :: _ :: _ :: _ :: _ :: _ :: _ :: _ :: _ :: _ :: _ :: _ :: _ :: _ :: _ :: _ :: _ :: _ :: _ :: _ :: _ :: _ :: _ :: _ :: _ :: _ :: _ :: _ :: _ :: _ :: _ :: _ :: _ :: _ :: _ :: _ :: _ :: _ :: _ :: _ :: _ :: _ :: _ :: _ :: _ :: _ :: _ :: _ :: _ :: _ :: _ :: _ :: _ :: _ :: _ :: _ :: _ :: _ :: _ :: _ :: _ :: _ :: _ :: _ :: _ :: _ :: _ :: _ :: _ :: _ :: _ :: _ :: _ :: _ :: _ :: _ :: _ :: _ :: _ :: _ :: _ :: _ :: _ :: [])) (H' := [.arr 24 2 [[_, _]], .arr 3 1 [[_]], .arr 24 2 [[_, _]]]) rfl rfl ?_
          refine w_skipN (env' := _) (wanted_f 41 (by kernel_rfl) rfl) rfl (nv_t6c rfl ?_)
          refine w_skipN (env' := _) (wanted_f 41 (by kernel_rfl) rfl) rfl (nv_t6c rfl ?_)
          refine w_opN (env' := _) rfl rfl rfl (fun _ h => h) (nv_t6c rfl ?_)
          refine w_opN (env' := _) rfl rfl rfl (fun _ h => h) (nv_t6c rfl ?_)
          refine w_skipN (env' := _) (wanted_f 45 (by kernel_rfl) rfl) rfl (nv_t6c rfl ?_)
          refine w_skipN (env' := _) (wanted_f 45 (by kernel_rfl) rfl) rfl (nv_t6c rfl ?_)
          refine w_skipN (env' := _) (wanted_f 45 (by kernel_rfl) rfl) rfl (nv_t6c rfl ?_)
          refine w_opN (env' := _) rfl rfl rfl (fun _ h => h) (nv_t6c rfl ?_)
          refine w_end rfl ?_
          refine vc_true rfl ?_
          refine vc_seq ?_
          refine w_region ?_
          refine w_opN (v := .agg [_, _]) (env' := _) rfl rfl rfl (fun _ h => h) (nv_t6c rfl ?_)
          refine w_op0N (H2 := [.arr 24 2 [[_, _]], .arr 3 1 [[_]], .arr 24 2 [[_, _]]]) rfl rfl rfl (fun _ h => h) ?_
          refine w_opN (env' := _) rfl rfl rfl (fun _ h => h) (nv_t6c rfl ?_)
          refine w_end rfl ?_
          refine vc_ret ?_
          refine r_then ?_
          refine r_fn rfl ?_
          -- return 1
          show retv _ _ = some (errR 2)
          rfl
        · skip
          refine w_norm (env' := (_ :: _ :: _ :: _ :: _ :: _ :: _ :: _ :: _ :: _ :: _ :: _ :: _ :: _ :: _ :: _ :: _ :: _ :: _ :: _ :: _ :: _ :: _ :: _ :: _ :: _ :: _ :: _ :: _ :: _ :: _ :: _ :: _ :: _ :: _ :: _ :: _ :: _ :: _ :: _ :: _ :: _ :: _ :: _ :: _ :: _ :: _ :: _ :: _ :: _ :: _ :: _ :: _ :: _ :: _ :: _ :: _ :: _ :: _ :: _ :: _ :: _ :: _ :: _ :: _ :: _ :: _ :: _ :: _ :: _ :: _ :: _ :: _ :: _ :: _ :: _ :: _ :: _ :: _ :: _ :: _ :: _ :: _ :: _ :: _ :: _ :: _ :: _ :: _ :: _ :: _ :: _ :: _ :: [])) (H' := [.arr 24 2 [[_, _]], .arr 3 1 [[_]], .arr 24 2 [[_, _]]]) rfl rfl ?_
          refine w_opN (env' := _) (wanted_t 41 (by kernel_rfl) rfl) rfl rfl (fun _ h => h) (nv_t6c rfl ?_)
          refine w_opN (env' := _) (wanted_t 41 (by kernel_rfl) rfl) rfl rfl (fun _ h => h) (nv_t6c rfl ?_)
          refine w_opN (env' := _) rfl rfl rfl (fun _ h => h) (nv_t6c rfl ?_)
          refine w_opN (env' := _) rfl rfl rfl (fun _ h => h) (nv_t6c rfl ?_)
          refine w_split 45 rfl (fun hg45 => ?_) (fun hg45 => ?_)
          · skip
            refine w_norm (env' := (_ :: _ :: _ :: _ :: _ :: _ :: _ :: _ :: _ :: _ :: _ :: _ :: _ :: _ :: _ :: _ :: _ :: _ :: _ :: _ :: _ :: _ :: _ :: _ :: _ :: _ :: _ :: _ :: _ :: _ :: _ :: _ :: _ :: _ :: _ :: _ :: _ :: _ :: _ :: _ :: _ :: _ :: _ :: _ :: _ :: _ :: _ :: _ :: _ :: _ :: _ :: _ :: _ :: _ :: _ :: _ :: _ :: _ :: _ :: _ :: _ :: _ :: _ :: _ :: _ :: _ :: _ :: _ :: _ :: _ :: _ :: _ :: _ :: _ :: _ :: _ :: _ :: _ :: _ :: _ :: _ :: _ :: _ :: _ :: _ :: _ :: _ :: _ :: _ :: _ :: _ :: _ :: _ :: [])) (H' := [.arr 24 2 [[_, _]], .arr 3 1 [[_]], .arr 24 2 [[_, _]]]) rfl rfl ?_
            refine w_skipN (env' := _) (wanted_f 45 (by kernel_rfl) rfl) rfl (nv_t6c rfl ?_)
            refine w_skipN (env' := _) (wanted_f 45 (by kernel_rfl) rfl) rfl (nv_t6c rfl ?_)
            refine w_skipN (env' := _) (wanted_f 45 (by kernel_rfl) rfl) rfl (nv_t6c rfl ?_)
            refine w_opN (env' := _) rfl rfl rfl (fun _ h => h) (nv_t6c rfl ?_)
            refine w_end rfl ?_
            refine vc_true rfl ?_
            refine vc_seq ?_
            refine w_region ?_
            refine w_opN (v := .agg [_, _]) (env' := _) rfl rfl rfl (fun _ h => h) (nv_t6c rfl ?_)
            refine w_op0N (H2 := [.arr 24 2 [[_, _]], .arr 3 1 [[_]], .arr 24 2 [[_, _]]]) rfl rfl rfl (fun _ h => h) ?_
            refine w_opN (env' := _) rfl rfl rfl (fun _ h => h) (nv_t6c rfl ?_)
            refine w_end rfl ?_
            refine vc_ret ?_
            refine r_then ?_
            refine r_fn rfl ?_
            -- return 2
            show retv _ _ = some (errR 2)
            rfl
          · skip
            refine w_norm (env' := (_ :: _ :: _ :: _ :: _ :: _ :: _ :: _ :: _ :: _ :: _ :: _ :: _ :: _ :: _ :: _ :: _ :: _ :: _ :: _ :: _ :: _ :: _ :: _ :: _ :: _ :: _ :: _ :: _ :: _ :: _ :: _ :: _ :: _ :: _ :: _ :: _ :: _ :: _ :: _ :: _ :: _ :: _ :: _ :: _ :: _ :: _ :: _ :: _ :: _ :: _ :: _ :: _ :: _ :: _ :: _ :: _ :: _ :: _ :: _ :: _ :: _ :: _ :: _ :: _ :: _ :: _ :: _ :: _ :: _ :: _ :: _ :: _ :: _ :: _ :: _ :: _ :: _ :: _ :: _ :: _ :: _ :: _ :: _ :: _ :: _ :: _ :: _ :: _ :: _ :: _ :: _ :: _ :: [])) (H' := [.arr 24 2 [[_, _]], .arr 3 1 [[_]], .arr 24 2 [[_, _]]]) rfl rfl ?_
            refine w_opN (env' := _) (wanted_t 45 (by kernel_rfl) rfl) rfl rfl (fun _ h => h) (nv_t6c rfl ?_)
            refine w_opN (env' := _) (wanted_t 45 (by kernel_rfl) rfl) rfl rfl (fun _ h => h) (nv_t6c rfl ?_)
            refine w_callI (env' := _) (wanted_t 45 (by kernel_rfl) rfl) rfl rfl (by kernel_rfl) rfl (by repeat' first | exact mapL_nil | exact IsL.lend (by assumption) | exact IsL.lend0 (by assumption) | refine mapL_cons ?_ ?_ | refine mapL_app ?_ ?_ | refine lend_agg ?_ | refine lend_cloG ?_ | exact lend0_ptr rfl rfl (by simp [isVal_int, isVal_bool, isVal_str, isVal_nils, isVal_loose, *]) | exact lend_ptr rfl rfl (by simp [isVal_int, isVal_bool, isVal_str, isVal_nils, isVal_loose, *]) | rfl) (t13 G st 14 [.iptr true [.int .i64 last]] (badN last) hS (by omega) rfl (by kernel_rfl) (fun r hr => by obtain ⟨k, rfl⟩ := hps r hr; exact ⟨.int .i64 k, rfl, rfl, t14 G k last true⟩)) rfl (nv_t6c rfl ?_)
            refine w_opN (env' := _) rfl rfl rfl (fun _ h => h) (nv_t6c rfl ?_)
            refine w_end rfl ?_
            refine vc_cond rfl (fun hc49 => ?_) (fun hc49 => ?_)
            · skip
              refine vc_seq ?_
              refine w_region ?_
              refine w_opN (v := .agg [_, _]) (env' := _) rfl rfl rfl (fun _ h => h) (nv_t6c rfl ?_)
              refine w_op0N (H2 := [.arr 24 2 [[_, _]], .arr 3 1 [[_]], .arr 24 2 [[_, _]]]) rfl rfl rfl (fun _ h => h) ?_
              refine w_opN (env' := _) rfl rfl rfl (fun _ h => h) (nv_t6c rfl ?_)
              refine w_end rfl ?_
              refine vc_ret ?_
              refine r_then ?_
              refine r_fn rfl ?_
              -- return 3
              show retv _ _ = some (errR 2)
              rfl
            · skip
              rw [lrows_plist] at hg35
              rw [badW, hg35, hg41, hg45, hc49] at hbad
              cases hbad
theorem nv_t6d {P : Program} {G : Glob} {md : Oper → Md} {ops : Array Oper} {r : List Oper} {env : List AV} {x0 x1 x2 x3 x4 x5 x6 x7 x8 x9 x10 x11 x12 x13 x14 x15 x16 x17 x18 x19 x20 x21 x22 x23 x24 x25 x26 x27 x28 x29 x30 x31 x32 x33 x34 x35 x36 x37 x38 x39 x40 x41 x42 x43 x44 x45 x46 x47 x48 x49 x50 x51 x52 x53 x54 x55 x56 x57 x58 x59 x60 x61 x62 x63 x64 x65 x66 x67 x68 x69 x70 x71 x72 x73 x74 x75 x76 x77 x78 x79 x80 x81 x82 x83 x84 x85 x86 x87 x88 x89 x90 x91 x92 : AV} {H : Hp} {K : List AV → Hp → Prop} (he : env = (x0 :: x1 :: x2 :: x3 :: x4 :: x5 :: x6 :: x7 :: x8 :: x9 :: x10 :: x11 :: x12 :: x13 :: x14 :: x15 :: x16 :: x17 :: x18 :: x19 :: x20 :: x21 :: x22 :: x23 :: x24 :: x25 :: x26 :: x27 :: x28 :: x29 :: x30 :: x31 :: x32 :: x33 :: x34 :: x35 :: x36 :: x37 :: x38 :: x39 :: x40 :: x41 :: x42 :: x43 :: x44 :: x45 :: x46 :: x47 :: x48 :: x49 :: x50 :: x51 :: x52 :: x53 :: x54 :: x55 :: x56 :: x57 :: x58 :: x59 :: x60 :: x61 :: x62 :: x63 :: x64 :: x65 :: x66 :: x67 :: x68 :: x69 :: x70 :: x71 :: x72 :: x73 :: x74 :: x75 :: x76 :: x77 :: x78 :: x79 :: x80 :: x81 :: x82 :: x83 :: x84 :: x85 :: x86 :: x87 :: x88 :: x89 :: x90 :: x91 :: x92 :: [])) (h : vops P G md ops r (x0 :: x1 :: x2 :: x3 :: x4 :: x5 :: x6 :: x7 :: x8 :: x9 :: x10 :: x11 :: x12 :: x13 :: x14 :: x15 :: x16 :: x17 :: x18 :: x19 :: x20 :: x21 :: x22 :: x23 :: x24 :: x25 :: x26 :: x27 :: x28 :: x29 :: x30 :: x31 :: x32 :: x33 :: x34 :: x35 :: x36 :: x37 :: x38 :: x39 :: x40 :: x41 :: x42 :: x43 :: x44 :: x45 :: x46 :: x47 :: x48 :: x49 :: x50 :: x51 :: x52 :: x53 :: x54 :: x55 :: x56 :: x57 :: x58 :: x59 :: x60 :: x61 :: x62 :: x63 :: x64 :: x65 :: x66 :: x67 :: x68 :: x69 :: x70 :: x71 :: x72 :: x73 :: x74 :: x75 :: x76 :: x77 :: x78 :: x79 :: x80 :: x81 :: x82 :: x83 :: x84 :: x85 :: x86 :: x87 :: x88 :: x89 :: x90 :: x91 :: x92 :: []) H K) : vops P G md ops r env H K := by rw [he]; exact h
theorem nd_t6d {P : Program} {G : Glob} {md : Oper → Md} {ops : Array Oper} {r : List Oper} {env : List AV} {x0 x1 x2 x3 x4 x5 x6 x7 x8 x9 x10 x11 x12 x13 x14 x15 x16 x17 x18 x19 x20 x21 x22 x23 x24 x25 x26 x27 x28 x29 x30 x31 x32 x33 x34 x35 x36 x37 x38 x39 x40 x41 x42 x43 x44 x45 x46 x47 x48 x49 x50 x51 x52 x53 x54 x55 x56 x57 x58 x59 x60 x61 x62 x63 x64 x65 x66 x67 x68 x69 x70 x71 x72 x73 x74 x75 x76 x77 x78 x79 x80 x81 x82 x83 x84 x85 x86 x87 x88 x89 x90 x91 x92 : AV} {H : Hp} {K : List AV → Hp → Prop} (he : env = (x0 :: x1 :: x2 :: x3 :: x4 :: x5 :: x6 :: x7 :: x8 :: x9 :: x10 :: x11 :: x12 :: x13 :: x14 :: x15 :: x16 :: x17 :: x18 :: x19 :: x20 :: x21 :: x22 :: x23 :: x24 :: x25 :: x26 :: x27 :: x28 :: x29 :: x30 :: x31 :: x32 :: x33 :: x34 :: x35 :: x36 :: x37 :: x38 :: x39 :: x40 :: x41 :: x42 :: x43 :: x44 :: x45 :: x46 :: x47 :: x48 :: x49 :: x50 :: x51 :: x52 :: x53 :: x54 :: x55 :: x56 :: x57 :: x58 :: x59 :: x60 :: x61 :: x62 :: x63 :: x64 :: x65 :: x66 :: x67 :: x68 :: x69 :: x70 :: x71 :: x72 :: x73 :: x74 :: x75 :: x76 :: x77 :: x78 :: x79 :: x80 :: x81 :: x82 :: x83 :: x84 :: x85 :: x86 :: x87 :: x88 :: x89 :: x90 :: x91 :: x92 :: [])) (h : vopsD P G md ops r (x0 :: x1 :: x2 :: x3 :: x4 :: x5 :: x6 :: x7 :: x8 :: x9 :: x10 :: x11 :: x12 :: x13 :: x14 :: x15 :: x16 :: x17 :: x18 :: x19 :: x20 :: x21 :: x22 :: x23 :: x24 :: x25 :: x26 :: x27 :: x28 :: x29 :: x30 :: x31 :: x32 :: x33 :: x34 :: x35 :: x36 :: x37 :: x38 :: x39 :: x40 :: x41 :: x42 :: x43 :: x44 :: x45 :: x46 :: x47 :: x48 :: x49 :: x50 :: x51 :: x52 :: x53 :: x54 :: x55 :: x56 :: x57 :: x58 :: x59 :: x60 :: x61 :: x62 :: x63 :: x64 :: x65 :: x66 :: x67 :: x68 :: x69 :: x70 :: x71 :: x72 :: x73 :: x74 :: x75 :: x76 :: x77 :: x78 :: x79 :: x80 :: x81 :: x82 :: x83 :: x84 :: x85 :: x86 :: x87 :: x88 :: x89 :: x90 :: x91 :: x92 :: []) H K) : vopsD P G md ops r env H K := by rw [he]; exact h
theorem t6d (G : Glob) (last0 last : Int) (l st : AV) (tg : Tg) (rows : List (List AV)) (hv : (AV.list tg rows).isVal = true) (hl : IsL l) (hS : IsL st) (hlen : (rows).length < 9223372036854775808) (hll : (lrows l).length ≤ 1000) (hsl : (lrows st).length ≤ 1000) (hp : ∀ r ∈ rows, PageOk r) (hpl : ∀ r ∈ lrows l, PieceOk r) (hps : ∀ r ∈ lrows st, ∃ k, r = [.int .i64 k]) (hval : validB last0 rows = true) (pgs : List (List AV)) (hsc : scan none (lrows l) = some pgs) (hbad : badW last0 last pgs (lrows st) = false) : Vi.Fn Tryd.prog G 6 [.agg [.int .i64 last0, .list tg rows], l, st, .int .i64 last] (okR last (withOk rows (lrows l) pgs (lrows st))) := by
  have h12 : Vi.Fn Tryd.prog G 12 [l] (.tup [plist pgs, .bool true]) := by
    have := t12 G l hl hll hpl
    rw [pieces, hsc] at this
    exact this
  have hPL : IsL (plist pgs) := IsL_plist
  have hL : IsL (.list tg rows) := .inr ⟨tg, rows, rfl⟩
  obtain ⟨hn120, hne, hPI, hSh⟩ := valid_pages hval hp
  obtain ⟨hok, hpg⟩ := scan_ok _ _ _ hsc
  have hzl : (lrows st).length = pgs.length := by simp only [badW, Bool.or_eq_false_iff, bne_eq_false_iff_eq] at hbad; omega
  refine fn_body (fun o => match o.dst with | some 52 => .shr | _ => .iso) Tryd.func6 rfl ?_
  refine vc_norm (env' := (_ :: _ :: _ :: _ :: _ :: _ :: _ :: _ :: _ :: _ :: _ :: _ :: _ :: _ :: _ :: _ :: _ :: _ :: _ :: _ :: _ :: _ :: _ :: _ :: _ :: _ :: _ :: _ :: _ :: _ :: _ :: _ :: _ :: _ :: _ :: _ :: _ :: _ :: _ :: _ :: _ :: _ :: _ :: _ :: _ :: _ :: _ :: _ :: _ :: _ :: _ :: _ :: _ :: _ :: _ :: _ :: _ :: _ :: _ :: _ :: _ :: _ :: _ :: _ :: _ :: _ :: _ :: _ :: _ :: _ :: _ :: _ :: _ :: _ :: _ :: _ :: _ :: _ :: _ :: _ :: _ :: _ :: _ :: _ :: _ :: _ :: _ :: _ :: _ :: _ :: _ :: _ :: _ :: [])) (H' := []) rfl rfl ?_
  refine vc_seq ?_
  refine w_region ?_
  refine w_opH (v := .ptr 0 0 0) (env' := _) (H2 := [.arr 24 2 [[_, _]]]) rfl rfl rfl rfl (fun _ h => h) (nv_t6d rfl ?_)
  refine w_opH (v := .ptr 1 0 0) (env' := _) (H2 := [.arr 24 2 [[_, _]], .arr 3 1 [[_]]]) rfl rfl rfl rfl (fun _ h => h) (nv_t6d rfl ?_)
  refine w_opH (v := .ptr 2 0 0) (env' := _) (H2 := [.arr 24 2 [[_, _]], .arr 3 1 [[_]], .arr 24 2 [[_, _]]]) rfl rfl rfl rfl (fun _ h => h) (nv_t6d rfl ?_)
  refine w_opN (env' := _) rfl rfl rfl (fun _ h => h) (nv_t6d rfl ?_)
  refine w_end rfl ?_
  refine vc_seq ?_
  refine vc_seq ?_
  refine w_region ?_
  refine w_opN (v := .agg [_, _]) (env' := _) rfl rfl rfl (fun _ h => h) (nv_t6d rfl ?_)
  refine w_callI (env' := _) rfl rfl rfl (by kernel_rfl) rfl (by repeat' first | exact mapL_nil | exact IsL.lend (by assumption) | exact IsL.lend0 (by assumption) | refine mapL_cons ?_ ?_ | refine mapL_app ?_ ?_ | refine lend_agg ?_ | refine lend_cloG ?_ | exact lend0_ptr rfl rfl (by simp [isVal_int, isVal_bool, isVal_str, isVal_nils, isVal_loose, *]) | exact lend_ptr rfl rfl (by simp [isVal_int, isVal_bool, isVal_str, isVal_nils, isVal_loose, *]) | rfl) (t11 G last0 (.list tg rows) hL hv hlen (fun r hr => by obtain ⟨b, s, rfl, hb⟩ := hp r hr; exact ⟨b, s, rfl, hb.1⟩)) rfl (nv_t6d rfl ?_)
  refine w_opN (env' := _) rfl rfl rfl (fun _ h => h) (nv_t6d rfl ?_)
  refine w_end rfl ?_
  refine vc_cond rfl (fun hc19 => ?_) (fun hc19 => ?_)
  · skip
    change (!validB last0 rows) = true at hc19
    rw [hval] at hc19
    cases hc19
  · skip
    refine vc_skip ?_
    refine n_then ?_
    refine vc_seq ?_
    refine w_region ?_
    refine w_opN (env' := _) rfl rfl rfl (fun _ h => h) (nv_t6d rfl ?_)
    refine w_callI (env' := _) rfl rfl rfl (by kernel_rfl) rfl (by repeat' first | exact mapL_nil | exact IsL.lend (by assumption) | exact IsL.lend0 (by assumption) | refine mapL_cons ?_ ?_ | refine mapL_app ?_ ?_ | refine lend_agg ?_ | refine lend_cloG ?_ | exact lend0_ptr rfl rfl (by simp [isVal_int, isVal_bool, isVal_str, isVal_nils, isVal_loose, *]) | exact lend_ptr rfl rfl (by simp [isVal_int, isVal_bool, isVal_str, isVal_nils, isVal_loose, *]) | rfl) (h12) rfl (nv_t6d rfl ?_)
    refine w_opN (env' := _) rfl rfl rfl (fun _ h => h) (nv_t6d rfl ?_)
    refine w_opN (env' := _) rfl rfl rfl (fun _ h => h) (nv_t6d rfl ?_)
    refine w_opN (env' := _) rfl rfl rfl (fun _ h => h) (nv_t6d rfl ?_)
    refine w_opN (env' := _) rfl rfl rfl (fun _ h => h) (nv_t6d rfl ?_)
    refine w_opN (env' := _) rfl rfl rfl (fun _ h => h) (nv_t6d rfl ?_)
    refine w_end rfl ?_
    refine vc_seq ?_
    refine vc_seq ?_
    refine w_region ?_
    refine w_opN (env' := _) rfl rfl rfl (fun _ h => h) (nv_t6d rfl ?_)
    refine w_opN (env' := _) rfl rfl rfl (fun _ h => h) (nv_t6d rfl ?_)
    refine w_opN (env' := _) rfl rfl rfl (fun _ h => h) (nv_t6d rfl ?_)
    refine w_split 28 rfl (fun hg28 => ?_) (fun hg28 => ?_)
    · skip
      cases hg28
    · skip
      refine w_norm (env' := (_ :: _ :: _ :: _ :: _ :: _ :: _ :: _ :: _ :: _ :: _ :: _ :: _ :: _ :: _ :: _ :: _ :: _ :: _ :: _ :: _ :: _ :: _ :: _ :: _ :: _ :: _ :: _ :: _ :: _ :: _ :: _ :: _ :: _ :: _ :: _ :: _ :: _ :: _ :: _ :: _ :: _ :: _ :: _ :: _ :: _ :: _ :: _ :: _ :: _ :: _ :: _ :: _ :: _ :: _ :: _ :: _ :: _ :: _ :: _ :: _ :: _ :: _ :: _ :: _ :: _ :: _ :: _ :: _ :: _ :: _ :: _ :: _ :: _ :: _ :: _ :: _ :: _ :: _ :: _ :: _ :: _ :: _ :: _ :: _ :: _ :: _ :: _ :: _ :: _ :: _ :: _ :: _ :: [])) (H' := [.arr 24 2 [[_, _]], .arr 3 1 [[_]], .arr 24 2 [[_, _]]]) rfl rfl ?_
      refine w_opN (env' := _) (wanted_t 28 (by kernel_rfl) rfl) rfl rfl (fun _ h => h) (nv_t6d rfl ?_)
      first | refine w_opN (env' := _) (wanted_t 28 (by kernel_rfl) rfl) rfl rfl (fun _ h => h) (nv_t6d rfl ?_) | refine x_len (env' := _) (wanted_t 28 (by kernel_rfl) rfl) rfl (by assumption) Tryd.underlying26 rfl (nv_t6d rfl ?_)
      refine w_opN (env' := _) (wanted_t 28 (by kernel_rfl) rfl) rfl rfl (fun _ h => h) (nv_t6d rfl ?_)
      first | refine w_opN (env' := _) (wanted_t 28 (by kernel_rfl) rfl) rfl rfl (fun _ h => h) (nv_t6d rfl ?_) | refine x_len (env' := _) (wanted_t 28 (by kernel_rfl) rfl) rfl (by assumption) Tryd.underlying26 rfl (nv_t6d rfl ?_)
      refine w_opN (env' := _) (wanted_t 28 (by kernel_rfl) rfl) rfl rfl (fun _ h => h) (nv_t6d rfl ?_)
      refine w_opN (env' := _) rfl rfl rfl (fun _ h => h) (nv_t6d rfl ?_)
      refine w_opN (env' := _) rfl rfl rfl (fun _ h => h) (nv_t6d rfl ?_)
      refine w_split 35 rfl (fun hg35 => ?_) (fun hg35 => ?_)
      · skip
        rw [lrows_plist] at hg35
        rw [badW, hg35] at hbad
        cases hbad
      · skip
        refine w_norm (env' := (_ :: _ :: _ :: _ :: _ :: _ :: _ :: _ :: _ :: _ :: _ :: _ :: _ :: _ :: _ :: _ :: _ :: _ :: _ :: _ :: _ :: _ :: _ :: _ :: _ :: _ :: _ :: _ :: _ :: _ :: _ :: _ :: _ :: _ :: _ :: _ :: _ :: _ :: _ :: _ :: _ :: _ :: _ :: _ :: _ :: _ :: _ :: _ :: _ :: _ :: _ :: _ :: _ :: _ :: _ :: _ :: _ :: _ :: _ :: _ :: _ :: _ :: _ :: _ :: _ :: _ :: _ :: _ :: _ :: _ :: _ :: _ :: _ :: _ :: _ :: _ :: _ :: _ :: _ :: _ :: _ :: _ :: _ :: _ :: _ :: _ :: _ :: _ :: _ :: _ :: _ :: _ :: _ :: [])) (H' := [.arr 24 2 [[_, _]], .arr 3 1 [[_]], .arr 24 2 [[_, _]]]) rfl rfl ?_
        refine w_opN (env' := _) (wanted_t 35 (by kernel_rfl) rfl) rfl rfl (fun _ h => h) (nv_t6d rfl ?_)
        refine w_opN (v := .ptr 0 0 0) (env' := _) (wanted_t 35 (by kernel_rfl) rfl) rfl rfl (fun _ h => h) (nv_t6d rfl ?_)
        refine w_opN (env' := _) (wanted_t 35 (by kernel_rfl) rfl) rfl rfl (fun _ h => h) (nv_t6d rfl ?_)
        refine w_opN (env' := _) (wanted_t 35 (by kernel_rfl) rfl) rfl rfl (fun _ h => h) (nv_t6d rfl ?_)
        refine w_opN (env' := _) rfl rfl rfl (fun _ h => h) (nv_t6d rfl ?_)
        refine w_opN (env' := _) rfl rfl rfl (fun _ h => h) (nv_t6d rfl ?_)
        refine w_split 41 rfl (fun hg41 => ?_) (fun hg41 => ?_)
        · skip
          rw [badW, hg41] at hbad
          simp at hbad
        · skip
          refine w_norm (env' := (_ :: _ :: _ :: _ :: _ :: _ :: _ :: _ :: _ :: _ :: _ :: _ :: _ :: _ :: _ :: _ :: _ :: _ :: _ :: _ :: _ :: _ :: _ :: _ :: _ :: _ :: _ :: _ :: _ :: _ :: _ :: _ :: _ :: _ :: _ :: _ :: _ :: _ :: _ :: _ :: _ :: _ :: _ :: _ :: _ :: _ :: _ :: _ :: _ :: _ :: _ :: _ :: _ :: _ :: _ :: _ :: _ :: _ :: _ :: _ :: _ :: _ :: _ :: _ :: _ :: _ :: _ :: _ :: _ :: _ :: _ :: _ :: _ :: _ :: _ :: _ :: _ :: _ :: _ :: _ :: _ :: _ :: _ :: _ :: _ :: _ :: _ :: _ :: _ :: _ :: _ :: _ :: _ :: [])) (H' := [.arr 24 2 [[_, _]], .arr 3 1 [[_]], .arr 24 2 [[_, _]]]) rfl rfl ?_
          refine w_opN (env' := _) (wanted_t 41 (by kernel_rfl) rfl) rfl rfl (fun _ h => h) (nv_t6d rfl ?_)
          refine w_opN (env' := _) (wanted_t 41 (by kernel_rfl) rfl) rfl rfl (fun _ h => h) (nv_t6d rfl ?_)
          refine w_opN (env' := _) rfl rfl rfl (fun _ h => h) (nv_t6d rfl ?_)
          refine w_opN (env' := _) rfl rfl rfl (fun _ h => h) (nv_t6d rfl ?_)
          refine w_split 45 rfl (fun hg45 => ?_) (fun hg45 => ?_)
          · skip
            rw [badW, hg45] at hbad
            simp at hbad
          · skip
            refine w_norm (env' := (_ :: _ :: _ :: _ :: _ :: _ :: _ :: _ :: _ :: _ :: _ :: _ :: _ :: _ :: _ :: _ :: _ :: _ :: _ :: _ :: _ :: _ :: _ :: _ :: _ :: _ :: _ :: _ :: _ :: _ :: _ :: _ :: _ :: _ :: _ :: _ :: _ :: _ :: _ :: _ :: _ :: _ :: _ :: _ :: _ :: _ :: _ :: _ :: _ :: _ :: _ :: _ :: _ :: _ :: _ :: _ :: _ :: _ :: _ :: _ :: _ :: _ :: _ :: _ :: _ :: _ :: _ :: _ :: _ :: _ :: _ :: _ :: _ :: _ :: _ :: _ :: _ :: _ :: _ :: _ :: _ :: _ :: _ :: _ :: _ :: _ :: _ :: _ :: _ :: _ :: _ :: _ :: _ :: [])) (H' := [.arr 24 2 [[_, _]], .arr 3 1 [[_]], .arr 24 2 [[_, _]]]) rfl rfl ?_
            refine w_opN (env' := _) (wanted_t 45 (by kernel_rfl) rfl) rfl rfl (fun _ h => h) (nv_t6d rfl ?_)
            refine w_opN (env' := _) (wanted_t 45 (by kernel_rfl) rfl) rfl rfl (fun _ h => h) (nv_t6d rfl ?_)
            refine w_callI (env' := _) (wanted_t 45 (by kernel_rfl) rfl) rfl rfl (by kernel_rfl) rfl (by repeat' first | exact mapL_nil | exact IsL.lend (by assumption) | exact IsL.lend0 (by assumption) | refine mapL_cons ?_ ?_ | refine mapL_app ?_ ?_ | refine lend_agg ?_ | refine lend_cloG ?_ | exact lend0_ptr rfl rfl (by simp [isVal_int, isVal_bool, isVal_str, isVal_nils, isVal_loose, *]) | exact lend_ptr rfl rfl (by simp [isVal_int, isVal_bool, isVal_str, isVal_nils, isVal_loose, *]) | rfl) (t13 G st 14 [.iptr true [.int .i64 last]] (badN last) hS (by omega) rfl (by kernel_rfl) (fun r hr => by obtain ⟨k, rfl⟩ := hps r hr; exact ⟨.int .i64 k, rfl, rfl, t14 G k last true⟩)) rfl (nv_t6d rfl ?_)
            refine w_opN (env' := _) rfl rfl rfl (fun _ h => h) (nv_t6d rfl ?_)
            refine w_end rfl ?_
            refine vc_cond rfl (fun hc49 => ?_) (fun hc49 => ?_)
            · skip
              rw [badW] at hbad
              rw [lrows_plist] at hg35
              simp only [Bool.or_eq_false_iff] at hbad
              rw [hbad.2] at hc49
              cases hc49
            · skip
              refine vc_skip ?_
              refine n_then ?_
              refine vc_seq ?_
              refine w_region ?_
              refine w_opN (v := .agg [_, _]) (env' := _) rfl rfl rfl (fun _ h => h) (nv_t6d rfl ?_)
              refine w_callS rfl rfl rfl (by kernel_rfl) rfl (t15 G _ last0 tg rows hne (by omega) hPI) ?_
              rintro _ H6 ⟨L, locs, rfl, hI, hLl, hlocs, hpre⟩
              refine w_norm (env' := (_ :: _ :: _ :: _ :: _ :: _ :: _ :: _ :: _ :: _ :: _ :: _ :: _ :: _ :: _ :: _ :: _ :: _ :: _ :: _ :: _ :: _ :: _ :: _ :: _ :: _ :: _ :: _ :: _ :: _ :: _ :: _ :: _ :: _ :: _ :: _ :: _ :: _ :: _ :: _ :: _ :: _ :: _ :: _ :: _ :: _ :: _ :: _ :: _ :: _ :: _ :: _ :: _ :: _ :: _ :: _ :: _ :: _ :: _ :: _ :: _ :: _ :: _ :: _ :: _ :: _ :: _ :: _ :: _ :: _ :: _ :: _ :: _ :: _ :: _ :: _ :: _ :: _ :: _ :: _ :: _ :: _ :: _ :: _ :: _ :: _ :: _ :: _ :: _ :: _ :: _ :: _ :: _ :: [])) (H' := _) rfl rfl ?_
              refine w_opH (v := .ptr H6.length 0 0) (env' := _) (H2 := H6 ++ [VO.arr 24 2 [[.int .i64 0, .nils]]]) rfl (g_alloc z24 rfl rfl) rfl (rfl) (fun _ h => h) (nv_t6d rfl ?_)
              refine w_op0N (H2 := H6 ++ [VO.arr 24 2 [[.int .i64 last0, .row false L 0 rows.length]]]) rfl (g_store get_last rfl rfl sz24 ⟨rfl, by simp, by decide⟩) (set_last) (fun _ h => h) ?_
              refine w_end rfl ?_
              refine vc_seq ?_
              refine vc_seq ?_
              refine w_region ?_
              have hW0 : WInv [VO.arr 24 2 [[.int .i64 last0, .list tg rows]], VO.arr 3 1 [[.int .i64 last]], VO.arr 24 2 [[.int .i64 0, .nils]]] (H6 ++ [VO.arr 24 2 [[.int .i64 last0, .row false L 0 rows.length]]]) H6.length L locs last0 rows.length (shOf rows) := by
                have h6L := hI.row
                obtain ⟨r6, e6, _, _⟩ := h6L
                have hl6 := (List.getElem?_eq_some_iff.1 e6).1
                refine ⟨hI.app, get_last, fun k o hk => get_app (hpre k o hk), by simp [shOf], by omega, hLl, hlocs, by omega, fun l hl e => ?_⟩
                subst e
                obtain ⟨j, hj⟩ := List.mem_iff_getElem?.1 hl
                have hjs : j < (shOf rows).length := by have := (List.getElem?_eq_some_iff.1 hj).1; have := hI.len; omega
                have := (List.getElem?_eq_some_iff.1 (hI.byt j _ _ hj (List.getElem?_eq_getElem hjs))).1
                omega
              generalize H6 ++ [VO.arr 24 2 [[.int .i64 last0, .row false L 0 rows.length]]] = H7 at hW0 ⊢
              refine w_opN (env' := _) rfl rfl rfl (fun _ h => h) (nv_t6d rfl ?_)
              first | refine w_opN (env' := _) rfl rfl rfl (fun _ h => h) (nv_t6d rfl ?_) | refine x_len (env' := _) rfl rfl (by assumption) Tryd.underlying25 rfl (nv_t6d rfl ?_)
              refine w_opN (env' := _) rfl rfl rfl (fun _ h => h) (nv_t6d rfl ?_)
              refine w_end rfl ?_
              refine vc_block ?_
              refine vc_loopX (α := { x : Nat × Hp // WInv [VO.arr 24 2 [[.int .i64 last0, .list tg rows]], VO.arr 3 1 [[.int .i64 last]], VO.arr 24 2 [[.int .i64 0, .nils]]] x.2 H6.length L locs last0 rows.length (((lrows l).take x.1).foldl layP (shOf rows)) ∧ ShOk (((lrows l).take x.1).foldl layP (shOf rows)) }) (fun x => (none :: none :: none :: none :: none :: none :: none :: none :: none :: none :: none :: none :: none :: none :: (some .undef) :: none :: none :: none :: none :: none :: none :: none :: none :: none :: none :: none :: none :: none :: none :: none :: none :: none :: none :: none :: none :: none :: none :: none :: none :: none :: none :: none :: none :: none :: none :: none :: none :: none :: none :: none :: none :: none :: none :: none :: none :: (some (.int .i64 (x.1.1 : Nat))) :: (some .undef) :: (some .undef) :: (some .undef) :: (some .undef) :: (some .undef) :: (some .undef) :: (some .undef) :: (some .undef) :: (some .undef) :: (some .undef) :: (some .undef) :: (some .undef) :: (some .undef) :: (some .undef) :: (some .undef) :: (some .undef) :: (some .undef) :: none :: none :: none :: none :: none :: none :: none :: none :: none :: none :: none :: none :: none :: none :: none :: none :: none :: none :: none :: none :: [])) (fun x => x.1.2) (fun x => (lrows l).length - x.1.1) ⟨(0, H7), hW0, hSh⟩ ⟨.inl rfl, .inl rfl, .inl rfl, .inl rfl, .inl rfl, .inl rfl, .inl rfl, .inl rfl, .inl rfl, .inl rfl, .inl rfl, .inl rfl, .inl rfl, .inl rfl, .inr rfl, .inl rfl, .inl rfl, .inl rfl, .inl rfl, .inl rfl, .inl rfl, .inl rfl, .inl rfl, .inl rfl, .inl rfl, .inl rfl, .inl rfl, .inl rfl, .inl rfl, .inl rfl, .inl rfl, .inl rfl, .inl rfl, .inl rfl, .inl rfl, .inl rfl, .inl rfl, .inl rfl, .inl rfl, .inl rfl, .inl rfl, .inl rfl, .inl rfl, .inl rfl, .inl rfl, .inl rfl, .inl rfl, .inl rfl, .inl rfl, .inl rfl, .inl rfl, .inl rfl, .inl rfl, .inl rfl, .inl rfl, .inl rfl, .inr rfl, .inr rfl, .inr rfl, .inr rfl, .inr rfl, .inr rfl, .inr rfl, .inr rfl, .inr rfl, .inr rfl, .inr rfl, .inr rfl, .inr rfl, .inr rfl, .inr rfl, .inr rfl, .inr rfl, .inl rfl, .inl rfl, .inl rfl, .inl rfl, .inl rfl, .inl rfl, .inl rfl, .inl rfl, .inl rfl, .inl rfl, .inl rfl, .inl rfl, .inl rfl, .inl rfl, .inl rfl, .inl rfl, .inl rfl, .inl rfl, .inl rfl, .inl rfl, trivial⟩ rfl ?_
              rintro ⟨⟨i, Hx⟩, hW, hShx⟩ Y0 hY0
              refine vc_norm (env' := (_ :: _ :: _ :: _ :: _ :: _ :: _ :: _ :: _ :: _ :: _ :: _ :: _ :: _ :: _ :: _ :: _ :: _ :: _ :: _ :: _ :: _ :: _ :: _ :: _ :: _ :: _ :: _ :: _ :: _ :: _ :: _ :: _ :: _ :: _ :: _ :: _ :: _ :: _ :: _ :: _ :: _ :: _ :: _ :: _ :: _ :: _ :: _ :: _ :: _ :: _ :: _ :: _ :: _ :: _ :: (.int .i64 (i : Int)) :: _ :: _ :: _ :: _ :: _ :: _ :: _ :: _ :: _ :: _ :: _ :: _ :: _ :: _ :: _ :: _ :: _ :: _ :: _ :: _ :: _ :: _ :: _ :: _ :: _ :: _ :: _ :: _ :: _ :: _ :: _ :: _ :: _ :: _ :: _ :: _ :: _ :: [])) (H' := Hx) rfl rfl ?_
              replace hW : WInv [VO.arr 24 2 [[.int .i64 last0, .list tg rows]], VO.arr 3 1 [[.int .i64 last]], VO.arr 24 2 [[.int .i64 0, .nils]]] Hx H6.length L locs last0 rows.length (((lrows l).take i).foldl layP (shOf rows)) := hW
              replace hShx : ShOk (((lrows l).take i).foldl layP (shOf rows)) := hShx
              refine vc_seq ?_
              refine w_region ?_
              refine w_opN (env' := _) rfl rfl rfl (fun _ h => h) (nv_t6d rfl ?_)
              refine w_end rfl ?_
              refine vc_seq ?_
              refine vc_cond rfl (fun hc56 => ?_) (fun hc56 => ?_)
              · skip
                have hlt : i < (lrows l).length := by simpa using hc56
                have hri : (lrows l)[i]? = some (lrows l)[i] := List.getElem?_eq_getElem hlt
                have hki := hok _ (List.getElem_mem hlt)
                obtain ⟨pg, a, b, hx, hLb, hb1, hb2⟩ := hpl _ (List.getElem_mem hlt)
                rw [hx] at hri hki
                have hkb := okP_bounds hki
                obtain ⟨lp, s, prow, hlp, hsp, hpr, hprp, hby⟩ := hW.at (i := pg.toNat) (by omega)
                have h128 := (hShx s (List.mem_of_getElem? hsp)).1
                refine vc_skip ?_
                refine n_then ?_
                refine vc_seq ?_
                refine vc_block ?_
                refine vc_seq ?_
                refine w_region ?_
                first | refine w_opN (v := .iptr _ [_, _, _]) (env' := _) rfl rfl rfl (fun _ h => h) (nv_t6d rfl ?_) | (refine x_index rfl rfl (by assumption) rfl el25 (by omega) (by assumption) rfl (fun bo => ?_); refine nv_t6d rfl ?_)
                refine w_opN (v := .agg [_, _, _]) (env' := _) rfl rfl rfl (fun _ h => h) (nv_t6d rfl ?_)
                refine w_opH (v := .ptr Hx.length 0 0) (env' := _) (H2 := Hx ++ [VO.arr 31 3 [[.int .i64 0, .int .i64 0, .nils]]]) rfl (g_alloc z31 rfl rfl) rfl (rfl) (fun _ h => h) (nv_t6d rfl ?_)
                refine w_op0N (H2 := (Hx ++ [VO.arr 31 3 [[.int .i64 pg, .int .i64 a, b]]])) rfl (g_store get_last rfl rfl sz31 ⟨rfl, by simp, by decide⟩) (set_last) (fun _ h => h) ?_
                refine w_end rfl ?_
                refine w_regionD (by kernel_rfl) ?_
                have hW9 : WInv [VO.arr 24 2 [[.int .i64 last0, .list tg rows]], VO.arr 3 1 [[.int .i64 last]], VO.arr 24 2 [[.int .i64 0, .nils]]] (Hx ++ [VO.arr 31 3 [[.int .i64 pg, .int .i64 a, b]]]) H6.length L locs last0 rows.length _ := hW.app
                refine d_opH (v := .ptr H6.length 0 1) (env' := _) (H2 := _) rfl rfl (.inr rfl) rfl rfl (fun _ h => h) (nd_t6d rfl ?_)
                refine d_opH (v := .row false L 0 rows.length) (env' := _) (H2 := _) rfl (g_load hW9.o rfl rfl) (.inr rfl) rfl (rfl) (fun _ h => h) (nd_t6d rfl ?_)
                refine d_opH (v := .ptr Hx.length 0 0) (env' := _) (H2 := _) rfl rfl (.inr rfl) rfl rfl (fun _ h => h) (nd_t6d rfl ?_)
                refine d_opH (v := .int .i64 pg) (env' := _) (H2 := _) rfl (g_load (rows := [[.int .i64 pg, .int .i64 a, b]]) get_last rfl rfl) (.inr rfl) rfl (rfl) (fun _ h => h) (nd_t6d rfl ?_)
                refine d_opH (v := .ptr L pg.toNat 0) (env' := _) (H2 := _) rfl (g_index0 el22 (get_app hpr) (by omega) (by omega)) (.inr rfl) rfl (rfl) (fun _ h => h) (nd_t6d rfl ?_)
                refine d_opH (env' := _) (H2 := _) rfl rfl (.inr rfl) rfl rfl (fun _ h => h) (nd_t6d rfl ?_)
                refine d_opH (v := .row false lp 0 s.1.length) (env' := _) (H2 := _) rfl (g_load (get_app hpr) hprp rfl) (.inr rfl) rfl (rfl) (fun _ h => h) (nd_t6d rfl ?_)
                refine d_opH (v := .ptr Hx.length 0 1) (env' := _) (H2 := _) rfl rfl (.inr rfl) rfl rfl (fun _ h => h) (nd_t6d rfl ?_)
                refine d_opH (v := .int .i64 a) (env' := _) (H2 := _) rfl (g_load (rows := [[.int .i64 pg, .int .i64 a, b]]) get_last rfl rfl) (.inr rfl) rfl (rfl) (fun _ h => h) (nd_t6d rfl ?_)
                refine d_opH (v := .row false lp a.toNat (s.1.length - a.toNat)) (env' := _) (H2 := _) rfl (g_slice0 Tryd.underlying29 sz5 (get_app hby) (by omega) (by omega)) (.inr rfl) rfl (rfl) (fun _ h => h) (nd_t6d rfl ?_)
                refine d_opH (v := .ptr Hx.length 0 2) (env' := _) (H2 := _) rfl rfl (.inr rfl) rfl rfl (fun _ h => h) (nd_t6d rfl ?_)
                refine d_opH (v := b) (env' := _) (H2 := _) rfl (g_load (rows := [[.int .i64 pg, .int .i64 a, b]]) get_last rfl rfl) (.inr rfl) rfl (rfl) (fun _ h => h) (nd_t6d rfl ?_)
                refine d_opH (v := .int .i64 ((lrows b).length : Nat)) (env' := _) (H2 := (Hx ++ [VO.arr 31 3 [[.int .i64 pg, .int .i64 a, b]]]).set lp (VO.arr 5 1 (lay s.1 a.toNat (lrows b)))) rfl (g_copyL (b := false) (x := b) (rows' := lrows b) (i := a.toNat) (m := s.1.length - a.toNat) el29 (get_app hby) hLb.src (bytes_len hb2) (by decide) hLb.notStr (by omega) (by omega)) (.inl rfl) rfl (rfl) (fun _ h => h) (nd_t6d rfl ?_)
                refine d_endB rfl ?_
                refine n_then ?_
                refine w_region ?_
                refine w_opN (env' := _) rfl rfl rfl (fun _ h => h) (nv_t6d rfl ?_)
                refine w_opN (env' := _) rfl rfl rfl (fun _ h => h) (nv_t6d rfl ?_)
                refine w_end rfl ?_
                refine hY0 ⟨(i + 1, _), by rw [foldl_take hri]; exact WInv.layStep hW9 hShx hki hlp hsp, by rw [foldl_take hri]; exact hShx.lay hki (piece_val ⟨pg, a, b, rfl, hLb, hb1, hb2⟩)⟩ (by simp only; omega) _ _ ⟨.inl rfl, .inl rfl, .inl rfl, .inl rfl, .inl rfl, .inl rfl, .inl rfl, .inl rfl, .inl rfl, .inl rfl, .inl rfl, .inl rfl, .inl rfl, .inl rfl, .inr rfl, .inl rfl, .inl rfl, .inl rfl, .inl rfl, .inl rfl, .inl rfl, .inl rfl, .inl rfl, .inl rfl, .inl rfl, .inl rfl, .inl rfl, .inl rfl, .inl rfl, .inl rfl, .inl rfl, .inl rfl, .inl rfl, .inl rfl, .inl rfl, .inl rfl, .inl rfl, .inl rfl, .inl rfl, .inl rfl, .inl rfl, .inl rfl, .inl rfl, .inl rfl, .inl rfl, .inl rfl, .inl rfl, .inl rfl, .inl rfl, .inl rfl, .inl rfl, .inl rfl, .inl rfl, .inl rfl, .inl rfl, .inl ?_, .inr rfl, .inr rfl, .inr rfl, .inr rfl, .inr rfl, .inr rfl, .inr rfl, .inr rfl, .inr rfl, .inr rfl, .inr rfl, .inr rfl, .inr rfl, .inr rfl, .inr rfl, .inr rfl, .inr rfl, .inl rfl, .inl rfl, .inl rfl, .inl rfl, .inl rfl, .inl rfl, .inl rfl, .inl rfl, .inl rfl, .inl rfl, .inl rfl, .inl rfl, .inl rfl, .inl rfl, .inl rfl, .inl rfl, .inl rfl, .inl rfl, .inl rfl, .inl rfl, trivial⟩ rfl
                exact (int_succ (by omega)).symm
              · skip
                have hge : ¬ i < (lrows l).length := by simpa using hc56
                rw [foldl_all (by omega)] at hW hShx
                refine vc_exit ?_
                refine x_then ?_
                refine x_then ?_
                refine x_same ?_
                refine n_then ?_
                refine vc_seq ?_
                refine vc_seq ?_
                refine w_region ?_
                refine w_opN (env' := _) rfl rfl rfl (fun _ h => h) (nv_t6d rfl ?_)
                first | refine w_opN (env' := _) rfl rfl rfl (fun _ h => h) (nv_t6d rfl ?_) | refine x_len (env' := _) rfl rfl (by assumption) Tryd.underlying26 rfl (nv_t6d rfl ?_)
                refine w_opN (env' := _) rfl rfl rfl (fun _ h => h) (nv_t6d rfl ?_)
                refine w_end rfl ?_
                refine vc_block ?_
                clear hY0 Y0
                refine vc_loopX (α := { x : Nat × Hp // WInv [VO.arr 24 2 [[.int .i64 last0, .list tg rows]], VO.arr 3 1 [[.int .i64 last]], VO.arr 24 2 [[.int .i64 0, .nils]]] x.2 H6.length L locs last0 rows.length (((pgs.zip (lrows st)).take x.1).foldl stampP ((lrows l).foldl layP (shOf rows))) }) (fun x => (none :: none :: none :: none :: none :: none :: none :: none :: none :: none :: none :: none :: none :: none :: none :: (some .undef) :: (some .undef) :: none :: none :: none :: none :: none :: none :: none :: none :: none :: none :: none :: none :: none :: none :: none :: none :: none :: none :: none :: none :: none :: none :: none :: none :: none :: none :: none :: none :: none :: none :: none :: none :: none :: none :: none :: none :: none :: none :: none :: none :: none :: none :: none :: none :: none :: none :: none :: none :: none :: none :: none :: none :: none :: none :: none :: none :: none :: none :: (some (.int .i64 (x.1.1 : Nat))) :: (some .undef) :: (some .undef) :: (some .undef) :: (some .undef) :: (some .undef) :: (some .undef) :: (some .undef) :: (some .undef) :: (some .undef) :: (some .undef) :: (some .undef) :: (some .undef) :: (some .undef) :: (some .undef) :: none :: none :: none :: [])) (fun x => x.1.2) (fun x => pgs.length - x.1.1) ⟨(0, Hx), hW⟩ ⟨.inl rfl, .inl rfl, .inl rfl, .inl rfl, .inl rfl, .inl rfl, .inl rfl, .inl rfl, .inl rfl, .inl rfl, .inl rfl, .inl rfl, .inl rfl, .inl rfl, .inl rfl, .inr rfl, .inr rfl, .inl rfl, .inl rfl, .inl rfl, .inl rfl, .inl rfl, .inl rfl, .inl rfl, .inl rfl, .inl rfl, .inl rfl, .inl rfl, .inl rfl, .inl rfl, .inl rfl, .inl rfl, .inl rfl, .inl rfl, .inl rfl, .inl rfl, .inl rfl, .inl rfl, .inl rfl, .inl rfl, .inl rfl, .inl rfl, .inl rfl, .inl rfl, .inl rfl, .inl rfl, .inl rfl, .inl rfl, .inl rfl, .inl rfl, .inl rfl, .inl rfl, .inl rfl, .inl rfl, .inl rfl, .inl rfl, .inl rfl, .inl rfl, .inl rfl, .inl rfl, .inl rfl, .inl rfl, .inl rfl, .inl rfl, .inl rfl, .inl rfl, .inl rfl, .inl rfl, .inl rfl, .inl rfl, .inl rfl, .inl rfl, .inl rfl, .inl rfl, .inl rfl, .inl rfl, .inr rfl, .inr rfl, .inr rfl, .inr rfl, .inr rfl, .inr rfl, .inr rfl, .inr rfl, .inr rfl, .inr rfl, .inr rfl, .inr rfl, .inr rfl, .inr rfl, .inl rfl, .inl rfl, .inl rfl, trivial⟩ rfl ?_
                rintro ⟨⟨i, Hx⟩, hW⟩ Y1 hY1
                refine vc_norm (env' := (_ :: _ :: _ :: _ :: _ :: _ :: _ :: _ :: _ :: _ :: _ :: _ :: _ :: _ :: _ :: _ :: _ :: _ :: _ :: _ :: _ :: _ :: _ :: _ :: _ :: _ :: _ :: _ :: _ :: _ :: _ :: _ :: _ :: _ :: _ :: _ :: _ :: _ :: _ :: _ :: _ :: _ :: _ :: _ :: _ :: _ :: _ :: _ :: _ :: _ :: _ :: _ :: _ :: _ :: _ :: _ :: _ :: _ :: _ :: _ :: _ :: _ :: _ :: _ :: _ :: _ :: _ :: _ :: _ :: _ :: _ :: _ :: _ :: _ :: _ :: (.int .i64 (i : Int)) :: _ :: _ :: _ :: _ :: _ :: _ :: _ :: _ :: _ :: _ :: _ :: _ :: _ :: _ :: _ :: _ :: _ :: [])) (H' := Hx) rfl rfl ?_
                replace hW : WInv [VO.arr 24 2 [[.int .i64 last0, .list tg rows]], VO.arr 3 1 [[.int .i64 last]], VO.arr 24 2 [[.int .i64 0, .nils]]] Hx H6.length L locs last0 rows.length (((pgs.zip (lrows st)).take i).foldl stampP ((lrows l).foldl layP (shOf rows))) := hW
                refine vc_seq ?_
                refine w_region ?_
                refine w_opN (env' := _) rfl rfl rfl (fun _ h => h) (nv_t6d rfl ?_)
                refine w_end rfl ?_
                refine vc_seq ?_
                refine vc_cond rfl (fun hc76 => ?_) (fun hc76 => ?_)
                · skip
                  have hlt : i < pgs.length := by simpa [lrows_plist] using hc76
                  have hri0 : pgs[i]? = some pgs[i] := List.getElem?_eq_getElem hlt
                  obtain ⟨r, hr, hrx⟩ := hpg _ (List.getElem_mem hlt)
                  have hkb := okP_in (hok r hr)
                  generalize pPg r = pg at hrx hkb
                  rw [hrx] at hri0
                  have hri : (lrows (plist pgs))[i]? = some [.int .i64 pg] := by rw [lrows_plist]; exact hri0
                  have hlt2 : i < (lrows st).length := by omega
                  have hsi : (lrows st)[i]? = some (lrows st)[i] := List.getElem?_eq_getElem hlt2
                  obtain ⟨k, hkx⟩ := hps _ (List.getElem_mem hlt2)
                  rw [hkx] at hsi
                  have hzi : (pgs.zip (lrows st))[i]? = some ([.int .i64 pg], [.int .i64 k]) := by rw [List.getElem?_zip_eq_some]; exact ⟨hri0, hsi⟩
                  obtain ⟨lp, s, prow, hlp, hsp, hpr, hprp, hby⟩ := hW.at (i := pg.toNat) (by omega)
                  refine vc_skip ?_
                  refine n_then ?_
                  refine vc_seq ?_
                  refine vc_block ?_
                  refine vc_seq ?_
                  refine w_region ?_
                  refine w_opN (env' := _) rfl rfl rfl (fun _ h => h) (nv_t6d rfl ?_)
                  first | refine w_opN (v := .iptr _ [_]) (env' := _) rfl rfl rfl (fun _ h => h) (nv_t6d rfl ?_) | (refine x_index rfl rfl (by assumption) rfl el26 (by omega) (by assumption) rfl (fun bo => ?_); refine nv_t6d rfl ?_)
                  refine w_opN (env' := _) rfl rfl rfl (fun _ h => h) (nv_t6d rfl ?_)
                  refine w_opN (env' := _) rfl rfl rfl (fun _ h => h) (nv_t6d rfl ?_)
                  refine w_opN (env' := _) rfl rfl rfl (fun _ h => h) (nv_t6d rfl ?_)
                  refine w_end rfl ?_
                  refine w_regionD (by kernel_rfl) ?_
                  refine d_opH (v := .ptr H6.length 0 1) (env' := _) (H2 := _) rfl rfl (.inr rfl) rfl rfl (fun _ h => h) (nd_t6d rfl ?_)
                  refine d_opH (v := .row false L 0 rows.length) (env' := _) (H2 := _) rfl (g_load hW.o rfl rfl) (.inr rfl) rfl (rfl) (fun _ h => h) (nd_t6d rfl ?_)
                  refine d_opH (env' := _) (H2 := _) rfl rfl (.inr rfl) rfl rfl (fun _ h => h) (nd_t6d rfl ?_)
                  refine d_opH (env' := _) (H2 := _) rfl rfl (.inr rfl) rfl rfl (fun _ h => h) (nd_t6d rfl ?_)
                  refine d_opH (env' := _) (H2 := _) rfl rfl (.inr rfl) rfl rfl (fun _ h => h) (nd_t6d rfl ?_)
                  first | refine d_opH (v := .iptr _ [_]) (env' := _) (H2 := _) rfl rfl (.inr rfl) rfl rfl (fun _ h => h) (nd_t6d rfl ?_) | (refine y_index rfl rfl (by assumption) rfl el26 (by omega) (by assumption) rfl (fun bo => ?_); refine nd_t6d rfl ?_)
                  refine d_opH (env' := _) (H2 := _) rfl rfl (.inr rfl) rfl rfl (fun _ h => h) (nd_t6d rfl ?_)
                  refine d_opH (v := .ptr L pg.toNat 0) (env' := _) (H2 := _) rfl (g_index0 el22 hpr (by omega) (by omega)) (.inr rfl) rfl (rfl) (fun _ h => h) (nd_t6d rfl ?_)
                  refine d_opH (env' := _) (H2 := _) rfl rfl (.inr rfl) rfl rfl (fun _ h => h) (nd_t6d rfl ?_)
                  refine d_op0 (H2 := Hx.set L (VO.arr 50 2 (prow.set pg.toNat [.row false lp 0 s.1.length, .int .i64 k]))) rfl (g_store hpr hprp rfl sz3 ⟨rfl, by simp, by decide⟩) (.inl rfl) (rfl) (fun _ h => h) ?_
                  refine d_endB rfl ?_
                  refine n_then ?_
                  refine w_region ?_
                  refine w_opN (env' := _) rfl rfl rfl (fun _ h => h) (nv_t6d rfl ?_)
                  refine w_opN (env' := _) rfl rfl rfl (fun _ h => h) (nv_t6d rfl ?_)
                  refine w_end rfl ?_
                  refine hY1 ⟨(i + 1, _), by rw [foldl_take hzi]; exact hW.stampStep hpr hlp hsp⟩ (by simp only; omega) _ _ ⟨.inl rfl, .inl rfl, .inl rfl, .inl rfl, .inl rfl, .inl rfl, .inl rfl, .inl rfl, .inl rfl, .inl rfl, .inl rfl, .inl rfl, .inl rfl, .inl rfl, .inl rfl, .inr rfl, .inr rfl, .inl rfl, .inl rfl, .inl rfl, .inl rfl, .inl rfl, .inl rfl, .inl rfl, .inl rfl, .inl rfl, .inl rfl, .inl rfl, .inl rfl, .inl rfl, .inl rfl, .inl rfl, .inl rfl, .inl rfl, .inl rfl, .inl rfl, .inl rfl, .inl rfl, .inl rfl, .inl rfl, .inl rfl, .inl rfl, .inl rfl, .inl rfl, .inl rfl, .inl rfl, .inl rfl, .inl rfl, .inl rfl, .inl rfl, .inl rfl, .inl rfl, .inl rfl, .inl rfl, .inl rfl, .inl rfl, .inl rfl, .inl rfl, .inl rfl, .inl rfl, .inl rfl, .inl rfl, .inl rfl, .inl rfl, .inl rfl, .inl rfl, .inl rfl, .inl rfl, .inl rfl, .inl rfl, .inl rfl, .inl rfl, .inl rfl, .inl rfl, .inl rfl, .inl ?_, .inr rfl, .inr rfl, .inr rfl, .inr rfl, .inr rfl, .inr rfl, .inr rfl, .inr rfl, .inr rfl, .inr rfl, .inr rfl, .inr rfl, .inr rfl, .inr rfl, .inl rfl, .inl rfl, .inl rfl, trivial⟩ rfl
                  exact (int_succ (by omega)).symm
                · skip
                  have hge : ¬ i < pgs.length := by simpa [lrows_plist] using hc76
                  rw [foldl_all (by simp; omega)] at hW
                  refine vc_exit ?_
                  refine x_then ?_
                  refine x_then ?_
                  refine x_same ?_
                  refine n_then ?_
                  refine vc_seq ?_
                  refine w_region ?_
                  refine w_opH (v := .int .i64 last) (env' := _) (H2 := _) rfl (g_load (hW.low 1 _ rfl) rfl rfl) rfl (rfl) (fun _ h => h) (nv_t6d rfl ?_)
                  refine w_opN (v := .ptr H6.length 0 0) (env' := _) rfl rfl rfl (fun _ h => h) (nv_t6d rfl ?_)
                  refine w_op0N (H2 := Hx.set H6.length (VO.arr 24 2 [[.int .i64 last, .row false L 0 rows.length]])) rfl (g_store hW.o rfl rfl sz3 ⟨rfl, by simp, by decide⟩) (rfl) (fun _ h => h) ?_
                  refine w_end rfl ?_
                  refine vc_seq ?_
                  refine w_region ?_
                  refine w_opH (v := .agg [.int .i64 last, .row false L 0 rows.length]) (env' := _) (H2 := _) rfl (g_load (get_self hW.o) rfl rfl) rfl (rfl) (fun _ h => h) (nv_t6d rfl ?_)
                  refine w_op0N (H2 := _) rfl (g_store (get_set (hW.low 2 _ rfl) (by have := hW.lq; simp at this; omega)) rfl rfl sz24 ⟨rfl, by simp, by decide⟩) (rfl) (fun _ h => h) ?_
                  refine w_opN (env' := _) rfl rfl rfl (fun _ h => h) (nv_t6d rfl ?_)
                  refine w_end rfl ?_
                  refine vc_ret ?_
                  refine r_fn (vres_cell_tmp rfl rfl (g_vload (get_self (get_set (hW.low 2 _ rfl) (by have := hW.lq; simp at this; omega))) rfl rfl) rfl) ?_
                  -- return 0
                  have hq2 : 2 ≠ L := by have := hW.lL; simp at this; omega
                  have hl2 : 2 ∉ locs := fun h => by have := hW.ll 2 h; simp at this
                  exact ret_img ((hW.img.other hW.qL (fun h => hW.ql _ h rfl)).other hq2 hl2) hW.n (ShOk.stampAll _ _ hShx)
end Go.Vi
