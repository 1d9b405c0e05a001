/- Which pieces may be laid: a walk. -/
import Derived.Test.YtenfndlbldffgaaDoorCwB
set_option autoImplicit false
set_option linter.unusedVariables false
set_option linter.unusedSimpArgs false
set_option maxRecDepth 100000
namespace Go.Vi
open Go Go.Vi Go.Proofs
attribute [local irreducible] vops vopsD vc

theorem zc3 : zcOf Tryd.prog 3 = some [.int .i64 0] := by kernel_rfl
theorem by3 : byOf Tryd.prog 3 = some 8 := by kernel_rfl
def pPg (r : List AV) : Int := match r with
  | .int _ p :: _ => p
  | _ => 0
def pAt (r : List AV) : Int := match r with
  | _ :: .int _ a :: _ => a
  | _ => 0
def pBy (r : List AV) : List (List AV) := match r with
  | _ :: _ :: b :: _ => lrows b
  | _ => []
/-- A piece. -/
def PieceOk (r : List AV) : Prop := ∃ pg a b, r = [.int .i64 pg, .int .i64 a, b] ∧ Byt b
def okP (r : List AV) : Bool := !(decide (pPg r < 0) || decide (pPg r ≥ 120) || decide (pAt r < 0) || decide (pAt r ≥ 128) || decide (((pBy r).length : Int) < 1) || decide (((pBy r).length : Int) > 128 - pAt r))
def scan : Option (List AV) → List (List AV) → Option (List (List AV))
  | _, [] => some []
  | none, r :: l => if okP r = true then (scan (some r) l).map ([.int .i64 (pPg r)] :: ·) else none
  | some q, r :: l => if okP r = true then (if pPg r > pPg q then (scan (some r) l).map ([.int .i64 (pPg r)] :: ·) else if pPg r < pPg q ∨ pAt r ≤ pAt q + (pBy q).length then none else scan (some r) l) else none
def prevAt (l : List (List AV)) (i : Nat) : Option (List AV) := if i = 0 then none else l[i - 1]?
structure Inv (l : List (List AV)) (i : Nat) (pgs : List (List AV)) : Prop where
  le : i ≤ l.length
  val : allVal pgs = true
  len : pgs.length ≤ i
  ok : ∀ j r, j < i → l[j]? = some r → okP r = true
  eq : scan none l = (scan (prevAt l i) (l.drop i)).map (pgs ++ ·)
theorem inv_zero (l : List (List AV)) : Inv l 0 [] := ⟨by omega, rfl, by simp, fun j r h => by omega, by
  simp only [prevAt, if_true, List.drop_zero, List.nil_append]
  cases scan none l <;> rfl⟩
theorem drop_at {l : List (List AV)} {i : Nat} {r : List AV} (hr : l[i]? = some r) : l.drop i = r :: l.drop (i + 1) := by
  obtain ⟨h1, h2⟩ := List.getElem?_eq_some_iff.1 hr
  rw [List.drop_eq_getElem_cons h1, h2]
theorem ok_succ {l : List (List AV)} {i : Nat} {pgs : List (List AV)} {r : List AV} (hI : Inv l i pgs) (hr : l[i]? = some r) (hk : okP r = true) : ∀ j r, j < i + 1 → l[j]? = some r → okP r = true := by
  intro j r' hj hr'
  by_cases h : j = i
  · subst h; rw [hr] at hr'; cases hr'; exact hk
  · exact hI.ok j r' (by omega) hr'
theorem scan_bad {l : List (List AV)} {i : Nat} {pgs : List (List AV)} {r : List AV} (hI : Inv l i pgs) (hr : l[i]? = some r) (hk : okP r = false) : scan none l = none := by
  rw [hI.eq, drop_at hr]
  cases prevAt l i <;> simp [scan, hk]
theorem scan_new {l : List (List AV)} {i : Nat} {pgs : List (List AV)} {r : List AV} (hI : Inv l i pgs) (hr : l[i]? = some r) (hk : okP r = true) (hn : i = 0 ∨ ∃ q, l[i - 1]? = some q ∧ pPg r > pPg q) : Inv l (i + 1) (pgs ++ [[.int .i64 (pPg r)]]) := by
  have hlt := (List.getElem?_eq_some_iff.1 hr).1
  refine ⟨hlt, ?_, by have := hI.len; simp; omega, ok_succ hI hr hk, ?_⟩
  · have := hI.val
    simp [allVal] at this ⊢
    exact ⟨this, rfl⟩
  · rw [hI.eq, drop_at hr]
    have hp : prevAt l (i + 1) = some r := by simp [prevAt, hr]
    rw [hp]
    have key : ∀ z : Option (List (List AV)), Option.map (pgs ++ ·) (z.map ([.int .i64 (pPg r)] :: ·)) = z.map (pgs ++ [[.int .i64 (pPg r)]] ++ ·) := by
      intro z; cases z <;> simp
    rcases hn with rfl | ⟨q, hq, hgt⟩
    · simp only [prevAt, if_true, scan, hk]
      exact key _
    · by_cases h0 : i = 0
      · subst h0
        simp only [prevAt, if_true, scan, hk]
        exact key _
      · simp only [prevAt, if_neg h0, hq, scan, hk, if_true, if_pos hgt]
        exact key _
theorem scan_same {l : List (List AV)} {i : Nat} {pgs : List (List AV)} {r q : List AV} (hI : Inv l i pgs) (hr : l[i]? = some r) (hk : okP r = true) (h0 : 0 < i) (hq : l[i - 1]? = some q) (h1 : ¬ pPg r > pPg q) (h2 : ¬ (pPg r < pPg q ∨ pAt r ≤ pAt q + (pBy q).length)) : Inv l (i + 1) pgs := by
  have hlt := (List.getElem?_eq_some_iff.1 hr).1
  refine ⟨hlt, hI.val, by have := hI.len; omega, ok_succ hI hr hk, ?_⟩
  rw [hI.eq, drop_at hr]
  have hp : prevAt l (i + 1) = some r := by simp [prevAt, hr]
  rw [hp]
  simp only [prevAt, if_neg (show ¬ i = 0 by omega), hq, scan, hk, if_true, if_neg h1, if_neg h2]
theorem scan_bad2 {l : List (List AV)} {i : Nat} {pgs : List (List AV)} {r q : List AV} (hI : Inv l i pgs) (hr : l[i]? = some r) (hk : okP r = true) (h0 : 0 < i) (hq : l[i - 1]? = some q) (h1 : ¬ pPg r > pPg q) (h2 : pPg r < pPg q ∨ pAt r ≤ pAt q + (pBy q).length) : scan none l = none := by
  rw [hI.eq, drop_at hr]
  simp only [prevAt, if_neg (show ¬ i = 0 by omega), hq, scan, hk, if_true, if_neg h1, if_pos h2]
  rfl
theorem scan_end {l : List (List AV)} {i : Nat} {pgs : List (List AV)} (hI : Inv l i pgs) (hi : l.length ≤ i) : scan none l = some pgs := by
  rw [hI.eq, List.drop_of_length_le hi]
  cases prevAt l i <;> simp [scan]
def pieces (l : List (List AV)) : AV := match scan none l with
  | some pgs => .tup [plist pgs, .bool true]
  | none => .tup [.nils, .bool false]
theorem okP3 {pg a : Int} {b : AV} : okP [.int .i64 pg, .int .i64 a, b] = !(decide (pg < 0) || decide (pg ≥ 120) || decide (a < 0) || decide (a ≥ 128) || decide (((lrows b).length : Int) < 1) || decide (((lrows b).length : Int) > 128 - a)) := rfl
theorem okP_f {pg a : Int} {b : AV} (h : pg < 0 ∨ pg ≥ 120 ∨ a < 0 ∨ a ≥ 128 ∨ ((lrows b).length : Int) < 1 ∨ ((lrows b).length : Int) > 128 - a) : okP [.int .i64 pg, .int .i64 a, b] = false := by
  rw [okP3]
  simp only [Bool.not_eq_false', Bool.or_eq_true, decide_eq_true_eq]
  omega
theorem okP_t {pg a : Int} {b : AV} (h : ¬ (pg < 0 ∨ pg ≥ 120 ∨ a < 0 ∨ a ≥ 128 ∨ ((lrows b).length : Int) < 1 ∨ ((lrows b).length : Int) > 128 - a)) : okP [.int .i64 pg, .int .i64 a, b] = true := by
  rw [okP3]
  simp only [Bool.not_eq_true', Bool.or_eq_false_iff, decide_eq_false_iff_not]
  omega
theorem okP_bounds {pg a : Int} {b : AV} (h : okP [.int .i64 pg, .int .i64 a, b] = true) : 0 ≤ pg ∧ pg < 120 ∧ 0 ≤ a ∧ a < 128 ∧ 1 ≤ (lrows b).length ∧ ((lrows b).length : Int) ≤ 128 - a := by
  rw [okP3] at h
  simp only [Bool.not_eq_true', Bool.or_eq_false_iff, decide_eq_false_iff_not] at h
  omega

theorem nv_t12 {P : Program} {G : Glob} {md : Oper → Md} {ops : Array Oper} {r : List Oper} {env : List AV} {x0 x1 x2 x3 x4 x5 x6 x7 x8 x9 x10 x11 x12 x13 x14 x15 x16 x17 x18 x19 x20 x21 x22 x23 x24 x25 x26 x27 x28 x29 x30 x31 x32 x33 x34 x35 x36 x37 x38 x39 x40 x41 x42 x43 x44 x45 x46 x47 x48 x49 x50 x51 x52 x53 x54 x55 x56 x57 x58 x59 x60 x61 x62 x63 x64 x65 x66 x67 x68 x69 x70 x71 x72 x73 x74 x75 x76 x77 x78 x79 x80 x81 x82 x83 x84 x85 x86 x87 : AV} {H : Hp} {K : List AV → Hp → Prop} (he : env = (x0 :: x1 :: x2 :: x3 :: x4 :: x5 :: x6 :: x7 :: x8 :: x9 :: x10 :: x11 :: x12 :: x13 :: x14 :: x15 :: x16 :: x17 :: x18 :: x19 :: x20 :: x21 :: x22 :: x23 :: x24 :: x25 :: x26 :: x27 :: x28 :: x29 :: x30 :: x31 :: x32 :: x33 :: x34 :: x35 :: x36 :: x37 :: x38 :: x39 :: x40 :: x41 :: x42 :: x43 :: x44 :: x45 :: x46 :: x47 :: x48 :: x49 :: x50 :: x51 :: x52 :: x53 :: x54 :: x55 :: x56 :: x57 :: x58 :: x59 :: x60 :: x61 :: x62 :: x63 :: x64 :: x65 :: x66 :: x67 :: x68 :: x69 :: x70 :: x71 :: x72 :: x73 :: x74 :: x75 :: x76 :: x77 :: x78 :: x79 :: x80 :: x81 :: x82 :: x83 :: x84 :: x85 :: x86 :: x87 :: [])) (h : vops P G md ops r (x0 :: x1 :: x2 :: x3 :: x4 :: x5 :: x6 :: x7 :: x8 :: x9 :: x10 :: x11 :: x12 :: x13 :: x14 :: x15 :: x16 :: x17 :: x18 :: x19 :: x20 :: x21 :: x22 :: x23 :: x24 :: x25 :: x26 :: x27 :: x28 :: x29 :: x30 :: x31 :: x32 :: x33 :: x34 :: x35 :: x36 :: x37 :: x38 :: x39 :: x40 :: x41 :: x42 :: x43 :: x44 :: x45 :: x46 :: x47 :: x48 :: x49 :: x50 :: x51 :: x52 :: x53 :: x54 :: x55 :: x56 :: x57 :: x58 :: x59 :: x60 :: x61 :: x62 :: x63 :: x64 :: x65 :: x66 :: x67 :: x68 :: x69 :: x70 :: x71 :: x72 :: x73 :: x74 :: x75 :: x76 :: x77 :: x78 :: x79 :: x80 :: x81 :: x82 :: x83 :: x84 :: x85 :: x86 :: x87 :: []) H K) : vops P G md ops r env H K := by rw [he]; exact h
theorem nd_t12 {P : Program} {G : Glob} {md : Oper → Md} {ops : Array Oper} {r : List Oper} {env : List AV} {x0 x1 x2 x3 x4 x5 x6 x7 x8 x9 x10 x11 x12 x13 x14 x15 x16 x17 x18 x19 x20 x21 x22 x23 x24 x25 x26 x27 x28 x29 x30 x31 x32 x33 x34 x35 x36 x37 x38 x39 x40 x41 x42 x43 x44 x45 x46 x47 x48 x49 x50 x51 x52 x53 x54 x55 x56 x57 x58 x59 x60 x61 x62 x63 x64 x65 x66 x67 x68 x69 x70 x71 x72 x73 x74 x75 x76 x77 x78 x79 x80 x81 x82 x83 x84 x85 x86 x87 : AV} {H : Hp} {K : List AV → Hp → Prop} (he : env = (x0 :: x1 :: x2 :: x3 :: x4 :: x5 :: x6 :: x7 :: x8 :: x9 :: x10 :: x11 :: x12 :: x13 :: x14 :: x15 :: x16 :: x17 :: x18 :: x19 :: x20 :: x21 :: x22 :: x23 :: x24 :: x25 :: x26 :: x27 :: x28 :: x29 :: x30 :: x31 :: x32 :: x33 :: x34 :: x35 :: x36 :: x37 :: x38 :: x39 :: x40 :: x41 :: x42 :: x43 :: x44 :: x45 :: x46 :: x47 :: x48 :: x49 :: x50 :: x51 :: x52 :: x53 :: x54 :: x55 :: x56 :: x57 :: x58 :: x59 :: x60 :: x61 :: x62 :: x63 :: x64 :: x65 :: x66 :: x67 :: x68 :: x69 :: x70 :: x71 :: x72 :: x73 :: x74 :: x75 :: x76 :: x77 :: x78 :: x79 :: x80 :: x81 :: x82 :: x83 :: x84 :: x85 :: x86 :: x87 :: [])) (h : vopsD P G md ops r (x0 :: x1 :: x2 :: x3 :: x4 :: x5 :: x6 :: x7 :: x8 :: x9 :: x10 :: x11 :: x12 :: x13 :: x14 :: x15 :: x16 :: x17 :: x18 :: x19 :: x20 :: x21 :: x22 :: x23 :: x24 :: x25 :: x26 :: x27 :: x28 :: x29 :: x30 :: x31 :: x32 :: x33 :: x34 :: x35 :: x36 :: x37 :: x38 :: x39 :: x40 :: x41 :: x42 :: x43 :: x44 :: x45 :: x46 :: x47 :: x48 :: x49 :: x50 :: x51 :: x52 :: x53 :: x54 :: x55 :: x56 :: x57 :: x58 :: x59 :: x60 :: x61 :: x62 :: x63 :: x64 :: x65 :: x66 :: x67 :: x68 :: x69 :: x70 :: x71 :: x72 :: x73 :: x74 :: x75 :: x76 :: x77 :: x78 :: x79 :: x80 :: x81 :: x82 :: x83 :: x84 :: x85 :: x86 :: x87 :: []) H K) : vopsD P G md ops r env H K := by rw [he]; exact h
theorem t12 (G : Glob) (l : AV) (hL : IsL l) (hlen : (lrows l).length ≤ 1000) (hp : ∀ r ∈ lrows l, PieceOk r) : Vi.Fn Tryd.prog G 12 [l] (pieces (lrows l)) := by
  refine fn_body (fun _ => .iso) Tryd.func12 rfl ?_
  refine vc_norm (env' := (_ :: _ :: _ :: _ :: _ :: _ :: _ :: _ :: _ :: _ :: _ :: _ :: _ :: _ :: _ :: _ :: _ :: _ :: _ :: _ :: _ :: _ :: _ :: _ :: _ :: _ :: _ :: _ :: _ :: _ :: _ :: _ :: _ :: _ :: _ :: _ :: _ :: _ :: _ :: _ :: _ :: _ :: _ :: _ :: _ :: _ :: _ :: _ :: _ :: _ :: _ :: _ :: _ :: _ :: _ :: _ :: _ :: _ :: _ :: _ :: _ :: _ :: _ :: _ :: _ :: _ :: _ :: _ :: _ :: _ :: _ :: _ :: _ :: _ :: _ :: _ :: _ :: _ :: _ :: _ :: _ :: _ :: _ :: _ :: _ :: _ :: _ :: _ :: [])) (H' := []) rfl rfl ?_
  refine vc_seq ?_
  refine w_region ?_
  refine w_opN (env' := _) rfl rfl rfl (fun _ h => h) (nv_t12 rfl ?_)
  refine w_opN (env' := _) rfl rfl rfl (fun _ h => h) (nv_t12 rfl ?_)
  refine w_end rfl ?_
  refine vc_seq ?_
  refine vc_seq ?_
  refine w_region ?_
  refine w_opN (env' := _) rfl rfl rfl (fun _ h => h) (nv_t12 rfl ?_)
  first | refine w_opN (env' := _) rfl rfl rfl (fun _ h => h) (nv_t12 rfl ?_) | refine x_len (env' := _) rfl rfl (by assumption) Tryd.underlying25 rfl (nv_t12 rfl ?_)
  refine w_opN (env' := _) rfl rfl rfl (fun _ h => h) (nv_t12 rfl ?_)
  refine w_end rfl ?_
  refine vc_block ?_
  refine vc_loopN (α := { a : Nat × List (List AV) // Inv (lrows l) a.1 a.2 }) (fun i => (none :: none :: (some (pval 0 i.1.2)) :: (some .undef) :: (some .undef) :: (some .undef) :: (some .undef) :: none :: none :: (some (.int .i64 (i.1.1 : Nat))) :: (some .undef) :: (some .undef) :: (some .undef) :: (some .undef) :: (some .undef) :: (some .undef) :: (some .undef) :: (some .undef) :: (some .undef) :: (some .undef) :: (some .undef) :: (some .undef) :: (some .undef) :: (some .undef) :: (some .undef) :: (some .undef) :: (some .undef) :: (some .undef) :: (some .undef) :: (some .undef) :: (some .undef) :: (some .undef) :: (some .undef) :: (some .undef) :: (some .undef) :: (some .undef) :: (some .undef) :: (some .undef) :: (some .undef) :: (some .undef) :: (some .undef) :: (some .undef) :: (some .undef) :: (some .undef) :: (some .undef) :: (some .undef) :: (some .undef) :: (some .undef) :: (some .undef) :: (some .undef) :: (some .undef) :: (some .undef) :: (some .undef) :: (some .undef) :: (some .undef) :: (some .undef) :: (some .undef) :: (some .undef) :: (some .undef) :: (some .undef) :: (some .undef) :: (some .undef) :: (some .undef) :: (some .undef) :: (some .undef) :: (some .undef) :: (some .undef) :: (some .undef) :: (some .undef) :: (some .undef) :: (some .undef) :: (some .undef) :: (some .undef) :: (some .undef) :: (some .undef) :: (some .undef) :: (some .undef) :: (some .undef) :: (some .undef) :: (some .undef) :: (some .undef) :: (some .undef) :: (some .undef) :: (some .undef) :: (some .undef) :: (some .undef) :: (some .undef) :: none :: [])) (fun i => [pobj 3 1 i.1.2]) (fun i => (lrows l).length - i.1.1) ⟨(0, []), inv_zero _⟩ [0] ⟨(by first | exact .inr rfl | exact .inr (IsL.ren1 (by assumption))), .inl rfl, (by first | exact .inr rfl | exact .inr (IsL.ren1 (by assumption))), .inl rfl, .inl rfl, .inl rfl, .inl rfl, (by first | exact .inr rfl | exact .inr (IsL.ren1 (by assumption))), (by first | exact .inr rfl | exact .inr (IsL.ren1 (by assumption))), (by first | exact .inr rfl | exact .inr (IsL.ren1 (by assumption))), .inl rfl, .inl rfl, .inl rfl, .inl rfl, .inl rfl, .inl rfl, .inl rfl, .inl rfl, .inl rfl, .inl rfl, .inl rfl, .inl rfl, .inl rfl, .inl rfl, .inl rfl, .inl rfl, .inl rfl, .inl rfl, .inl rfl, .inl rfl, .inl rfl, .inl rfl, .inl rfl, .inl rfl, .inl rfl, .inl rfl, .inl rfl, .inl rfl, .inl rfl, .inl rfl, .inl rfl, .inl rfl, .inl rfl, .inl rfl, .inl rfl, .inl rfl, .inl rfl, .inl rfl, .inl rfl, .inl rfl, .inl rfl, .inl rfl, .inl rfl, .inl rfl, .inl rfl, .inl rfl, .inl rfl, .inl rfl, .inl rfl, .inl rfl, .inl rfl, .inl rfl, .inl rfl, .inl rfl, .inl rfl, .inl rfl, .inl rfl, .inl rfl, .inl rfl, .inl rfl, .inl rfl, .inl rfl, .inl rfl, .inl rfl, .inl rfl, .inl rfl, .inl rfl, .inl rfl, .inl rfl, .inl rfl, .inl rfl, .inl rfl, .inl rfl, .inl rfl, .inl rfl, .inl rfl, .inl rfl, .inl rfl, trivial⟩ (by decide) (fun _ h => absurd h (by omega)) ⟨.inl rfl, trivial⟩ (fun i => ⟨Nat.zero_le _, ⟨(by first | exact trivial | exact IsL.valN (by assumption) | exact .inr ⟨_, rfl, rfl⟩ | (intro x hx; simp at hx; rcases hx with rfl | rfl <;> first | trivial | exact IsL.leafN (by assumption)) | (simp [valN, leafN, cellsN, IsL.leafN, Named, live, VO.live, *]; done)), trivial, (pval_N rfl), trivial, trivial, trivial, trivial, (by first | exact trivial | exact IsL.valN (by assumption) | exact .inr ⟨_, rfl, rfl⟩ | (intro x hx; simp at hx; rcases hx with rfl | rfl <;> first | trivial | exact IsL.leafN (by assumption)) | (simp [valN, leafN, cellsN, IsL.leafN, Named, live, VO.live, *]; done)), (by first | exact trivial | exact IsL.valN (by assumption) | exact .inr ⟨_, rfl, rfl⟩ | (intro x hx; simp at hx; rcases hx with rfl | rfl <;> first | trivial | exact IsL.leafN (by assumption)) | (simp [valN, leafN, cellsN, IsL.leafN, Named, live, VO.live, *]; done)), (by first | exact trivial | exact IsL.valN (by assumption) | exact .inr ⟨_, rfl, rfl⟩ | (intro x hx; simp at hx; rcases hx with rfl | rfl <;> first | trivial | exact IsL.leafN (by assumption)) | (simp [valN, leafN, cellsN, IsL.leafN, Named, live, VO.live, *]; done)), trivial, trivial, trivial, trivial, trivial, trivial, trivial, trivial, trivial, trivial, trivial, trivial, trivial, trivial, trivial, trivial, trivial, trivial, trivial, trivial, trivial, trivial, trivial, trivial, trivial, trivial, trivial, trivial, trivial, trivial, trivial, trivial, trivial, trivial, trivial, trivial, trivial, trivial, trivial, trivial, trivial, trivial, trivial, trivial, trivial, trivial, trivial, trivial, trivial, trivial, trivial, trivial, trivial, trivial, trivial, trivial, trivial, trivial, trivial, trivial, trivial, trivial, trivial, trivial, trivial, trivial, trivial, trivial, trivial, trivial, trivial, trivial, trivial, trivial, trivial, trivial, trivial, trivial, trivial⟩, ⟨pobj_N i.2.val, trivial⟩⟩) ?_
  rintro ⟨⟨i, pgs⟩, hI⟩ Y0 hY0
  refine vc_norm (env' := (_ :: _ :: (pval 0 pgs) :: _ :: _ :: _ :: _ :: _ :: _ :: (.int .i64 (i : Int)) :: _ :: _ :: _ :: _ :: _ :: _ :: _ :: _ :: _ :: _ :: _ :: _ :: _ :: _ :: _ :: _ :: _ :: _ :: _ :: _ :: _ :: _ :: _ :: _ :: _ :: _ :: _ :: _ :: _ :: _ :: _ :: _ :: _ :: _ :: _ :: _ :: _ :: _ :: _ :: _ :: _ :: _ :: _ :: _ :: _ :: _ :: _ :: _ :: _ :: _ :: _ :: _ :: _ :: _ :: _ :: _ :: _ :: _ :: _ :: _ :: _ :: _ :: _ :: _ :: _ :: _ :: _ :: _ :: _ :: _ :: _ :: _ :: _ :: _ :: _ :: _ :: _ :: _ :: [])) (H' := [pobj 3 1 pgs]) rfl rfl ?_
  replace hI : Inv (lrows l) i pgs := hI
  refine vc_seq ?_
  refine w_region ?_
  refine w_opN (env' := _) rfl rfl rfl (fun _ h => h) (nv_t12 rfl ?_)
  refine w_end rfl ?_
  refine vc_seq ?_
  refine vc_cond rfl (fun hc10 => ?_) (fun hc10 => ?_)
  · skip
    have hlt : i < (lrows l).length := by simpa using hc10
    have hri : (lrows l)[i]? = some (lrows l)[i] := List.getElem?_eq_getElem hlt
    obtain ⟨pg, a, b, hx, hLb, hb1, hb2⟩ := hp _ (List.getElem_mem hlt)
    rw [hx] at hri
    refine vc_skip ?_
    refine n_then ?_
    refine vc_seq ?_
    refine vc_block ?_
    refine vc_seq ?_
    refine w_region ?_
    refine w_opN (env' := _) rfl rfl rfl (fun _ h => h) (nv_t12 rfl ?_)
    first | refine w_opN (v := .iptr _ [_, _, _]) (env' := _) rfl rfl rfl (fun _ h => h) (nv_t12 rfl ?_) | (refine x_index rfl rfl (by assumption) rfl el25 (by omega) (by assumption) rfl (fun bo => ?_); refine nv_t12 rfl ?_)
    refine w_opN (v := .agg [_, _, _]) (env' := _) rfl rfl rfl (fun _ h => h) (nv_t12 rfl ?_)
    refine w_opH (v := .ptr 1 0 0) (env' := _) (H2 := [pobj 3 1 pgs, .arr 31 3 [[_, _, _]]]) rfl rfl rfl rfl (fun _ h => h) (nv_t12 rfl ?_)
    refine w_opN (env' := _) rfl rfl rfl (fun _ h => h) (nv_t12 rfl ?_)
    refine w_op0N (H2 := [pobj 3 1 pgs, .arr 31 3 [[_, _, _]]]) rfl rfl rfl (fun _ h => h) ?_
    refine w_end rfl ?_
    refine vc_seq ?_
    refine vc_seq ?_
    refine w_region ?_
    refine w_opN (v := .ptr 1 0 0) (env' := _) rfl rfl rfl (fun _ h => h) (nv_t12 rfl ?_)
    refine w_opN (env' := _) rfl rfl rfl (fun _ h => h) (nv_t12 rfl ?_)
    refine w_opN (env' := _) rfl rfl rfl (fun _ h => h) (nv_t12 rfl ?_)
    refine w_opN (env' := _) rfl rfl rfl (fun _ h => h) (nv_t12 rfl ?_)
    refine w_split 17 rfl (fun hg17 => ?_) (fun hg17 => ?_)
    · skip
      refine w_norm (env' := (_ :: _ :: _ :: _ :: _ :: _ :: _ :: _ :: _ :: _ :: _ :: _ :: _ :: _ :: _ :: _ :: _ :: _ :: _ :: _ :: _ :: _ :: _ :: _ :: _ :: _ :: _ :: _ :: _ :: _ :: _ :: _ :: _ :: _ :: _ :: _ :: _ :: _ :: _ :: _ :: _ :: _ :: _ :: _ :: _ :: _ :: _ :: _ :: _ :: _ :: _ :: _ :: _ :: _ :: _ :: _ :: _ :: _ :: _ :: _ :: _ :: _ :: _ :: _ :: _ :: _ :: _ :: _ :: _ :: _ :: _ :: _ :: _ :: _ :: _ :: _ :: _ :: _ :: _ :: _ :: _ :: _ :: _ :: _ :: _ :: _ :: _ :: _ :: [])) (H' := [pobj 3 1 pgs, .arr 31 3 [[_, _, _]]]) rfl rfl ?_
      refine w_skipN (env' := _) (wanted_f 17 (by kernel_rfl) rfl) rfl (nv_t12 rfl ?_)
      refine w_skipN (env' := _) (wanted_f 17 (by kernel_rfl) rfl) rfl (nv_t12 rfl ?_)
      refine w_skipN (env' := _) (wanted_f 17 (by kernel_rfl) rfl) rfl (nv_t12 rfl ?_)
      refine w_opN (env' := _) rfl rfl rfl (fun _ h => h) (nv_t12 rfl ?_)
      refine w_opN (env' := _) rfl rfl rfl (fun _ h => h) (nv_t12 rfl ?_)
      refine w_skipN (env' := _) (wanted_f 22 (by kernel_rfl) rfl) rfl (nv_t12 rfl ?_)
      refine w_skipN (env' := _) (wanted_f 22 (by kernel_rfl) rfl) rfl (nv_t12 rfl ?_)
      refine w_skipN (env' := _) (wanted_f 22 (by kernel_rfl) rfl) rfl (nv_t12 rfl ?_)
      refine w_opN (env' := _) rfl rfl rfl (fun _ h => h) (nv_t12 rfl ?_)
      refine w_opN (env' := _) rfl rfl rfl (fun _ h => h) (nv_t12 rfl ?_)
      refine w_skipN (env' := _) (wanted_f 27 (by kernel_rfl) rfl) rfl (nv_t12 rfl ?_)
      refine w_skipN (env' := _) (wanted_f 27 (by kernel_rfl) rfl) rfl (nv_t12 rfl ?_)
      refine w_skipN (env' := _) (wanted_f 27 (by kernel_rfl) rfl) rfl (nv_t12 rfl ?_)
      refine w_opN (env' := _) rfl rfl rfl (fun _ h => h) (nv_t12 rfl ?_)
      refine w_opN (env' := _) rfl rfl rfl (fun _ h => h) (nv_t12 rfl ?_)
      refine w_skipN (env' := _) (wanted_f 32 (by kernel_rfl) rfl) rfl (nv_t12 rfl ?_)
      refine w_skipN (env' := _) (wanted_f 32 (by kernel_rfl) rfl) rfl (nv_t12 rfl ?_)
      refine w_skipN (env' := _) (wanted_f 32 (by kernel_rfl) rfl) rfl (nv_t12 rfl ?_)
      refine w_skipN (env' := _) (wanted_f 32 (by kernel_rfl) rfl) rfl (nv_t12 rfl ?_)
      refine w_opN (env' := _) rfl rfl rfl (fun _ h => h) (nv_t12 rfl ?_)
      refine w_opN (env' := _) rfl rfl rfl (fun _ h => h) (nv_t12 rfl ?_)
      refine w_skipN (env' := _) (wanted_f 38 (by kernel_rfl) rfl) rfl (nv_t12 rfl ?_)
      refine w_skipN (env' := _) (wanted_f 38 (by kernel_rfl) rfl) rfl (nv_t12 rfl ?_)
      refine w_skipN (env' := _) (wanted_f 38 (by kernel_rfl) rfl) rfl (nv_t12 rfl ?_)
      refine w_skipN (env' := _) (wanted_f 38 (by kernel_rfl) rfl) rfl (nv_t12 rfl ?_)
      refine w_skipN (env' := _) (wanted_f 38 (by kernel_rfl) rfl) rfl (nv_t12 rfl ?_)
      refine w_skipN (env' := _) (wanted_f 38 (by kernel_rfl) rfl) rfl (nv_t12 rfl ?_)
      refine w_skipN (env' := _) (wanted_f 38 (by kernel_rfl) rfl) rfl (nv_t12 rfl ?_)
      refine w_opN (env' := _) rfl rfl rfl (fun _ h => h) (nv_t12 rfl ?_)
      refine w_end rfl ?_
      refine vc_true rfl ?_
      refine vc_seq ?_
      refine w_region ?_
      refine w_opN (env' := _) rfl rfl rfl (fun _ h => h) (nv_t12 rfl ?_)
      refine w_opN (env' := _) rfl rfl rfl (fun _ h => h) (nv_t12 rfl ?_)
      refine w_end rfl ?_
      refine vc_ret ?_
      refine r_then ?_
      refine r_block ?_
      refine r_then ?_
      refine r_then ?_
      refine r_block ?_
      refine r_then ?_
      refine r_fn rfl ?_
      -- return 0
      have hk : okP [.int .i64 pg, .int .i64 a, b] = false := okP_f (by have := of_decide_eq_true hg17; omega)
      show some (AV.tup [.nils, .bool false]) = some (pieces (lrows l))
      rw [pieces, scan_bad hI hri hk]
    · skip
      refine w_norm (env' := (_ :: _ :: _ :: _ :: _ :: _ :: _ :: _ :: _ :: _ :: _ :: _ :: _ :: _ :: _ :: _ :: _ :: _ :: _ :: _ :: _ :: _ :: _ :: _ :: _ :: _ :: _ :: _ :: _ :: _ :: _ :: _ :: _ :: _ :: _ :: _ :: _ :: _ :: _ :: _ :: _ :: _ :: _ :: _ :: _ :: _ :: _ :: _ :: _ :: _ :: _ :: _ :: _ :: _ :: _ :: _ :: _ :: _ :: _ :: _ :: _ :: _ :: _ :: _ :: _ :: _ :: _ :: _ :: _ :: _ :: _ :: _ :: _ :: _ :: _ :: _ :: _ :: _ :: _ :: _ :: _ :: _ :: _ :: _ :: _ :: _ :: _ :: _ :: [])) (H' := [pobj 3 1 pgs, .arr 31 3 [[_, _, _]]]) rfl rfl ?_
      refine w_opN (v := .ptr 1 0 0) (env' := _) (wanted_t 17 (by kernel_rfl) rfl) rfl rfl (fun _ h => h) (nv_t12 rfl ?_)
      refine w_opN (env' := _) (wanted_t 17 (by kernel_rfl) rfl) rfl rfl (fun _ h => h) (nv_t12 rfl ?_)
      refine w_opN (env' := _) (wanted_t 17 (by kernel_rfl) rfl) rfl rfl (fun _ h => h) (nv_t12 rfl ?_)
      refine w_opN (env' := _) rfl rfl rfl (fun _ h => h) (nv_t12 rfl ?_)
      refine w_opN (env' := _) rfl rfl rfl (fun _ h => h) (nv_t12 rfl ?_)
      refine w_split 22 rfl (fun hg22 => ?_) (fun hg22 => ?_)
      · skip
        refine w_norm (env' := (_ :: _ :: _ :: _ :: _ :: _ :: _ :: _ :: _ :: _ :: _ :: _ :: _ :: _ :: _ :: _ :: _ :: _ :: _ :: _ :: _ :: _ :: _ :: _ :: _ :: _ :: _ :: _ :: _ :: _ :: _ :: _ :: _ :: _ :: _ :: _ :: _ :: _ :: _ :: _ :: _ :: _ :: _ :: _ :: _ :: _ :: _ :: _ :: _ :: _ :: _ :: _ :: _ :: _ :: _ :: _ :: _ :: _ :: _ :: _ :: _ :: _ :: _ :: _ :: _ :: _ :: _ :: _ :: _ :: _ :: _ :: _ :: _ :: _ :: _ :: _ :: _ :: _ :: _ :: _ :: _ :: _ :: _ :: _ :: _ :: _ :: _ :: _ :: [])) (H' := [pobj 3 1 pgs, .arr 31 3 [[_, _, _]]]) rfl rfl ?_
        refine w_skipN (env' := _) (wanted_f 22 (by kernel_rfl) rfl) rfl (nv_t12 rfl ?_)
        refine w_skipN (env' := _) (wanted_f 22 (by kernel_rfl) rfl) rfl (nv_t12 rfl ?_)
        refine w_skipN (env' := _) (wanted_f 22 (by kernel_rfl) rfl) rfl (nv_t12 rfl ?_)
        refine w_opN (env' := _) rfl rfl rfl (fun _ h => h) (nv_t12 rfl ?_)
        refine w_opN (env' := _) rfl rfl rfl (fun _ h => h) (nv_t12 rfl ?_)
        refine w_skipN (env' := _) (wanted_f 27 (by kernel_rfl) rfl) rfl (nv_t12 rfl ?_)
        refine w_skipN (env' := _) (wanted_f 27 (by kernel_rfl) rfl) rfl (nv_t12 rfl ?_)
        refine w_skipN (env' := _) (wanted_f 27 (by kernel_rfl) rfl) rfl (nv_t12 rfl ?_)
        refine w_opN (env' := _) rfl rfl rfl (fun _ h => h) (nv_t12 rfl ?_)
        refine w_opN (env' := _) rfl rfl rfl (fun _ h => h) (nv_t12 rfl ?_)
        refine w_skipN (env' := _) (wanted_f 32 (by kernel_rfl) rfl) rfl (nv_t12 rfl ?_)
        refine w_skipN (env' := _) (wanted_f 32 (by kernel_rfl) rfl) rfl (nv_t12 rfl ?_)
        refine w_skipN (env' := _) (wanted_f 32 (by kernel_rfl) rfl) rfl (nv_t12 rfl ?_)
        refine w_skipN (env' := _) (wanted_f 32 (by kernel_rfl) rfl) rfl (nv_t12 rfl ?_)
        refine w_opN (env' := _) rfl rfl rfl (fun _ h => h) (nv_t12 rfl ?_)
        refine w_opN (env' := _) rfl rfl rfl (fun _ h => h) (nv_t12 rfl ?_)
        refine w_skipN (env' := _) (wanted_f 38 (by kernel_rfl) rfl) rfl (nv_t12 rfl ?_)
        refine w_skipN (env' := _) (wanted_f 38 (by kernel_rfl) rfl) rfl (nv_t12 rfl ?_)
        refine w_skipN (env' := _) (wanted_f 38 (by kernel_rfl) rfl) rfl (nv_t12 rfl ?_)
        refine w_skipN (env' := _) (wanted_f 38 (by kernel_rfl) rfl) rfl (nv_t12 rfl ?_)
        refine w_skipN (env' := _) (wanted_f 38 (by kernel_rfl) rfl) rfl (nv_t12 rfl ?_)
        refine w_skipN (env' := _) (wanted_f 38 (by kernel_rfl) rfl) rfl (nv_t12 rfl ?_)
        refine w_skipN (env' := _) (wanted_f 38 (by kernel_rfl) rfl) rfl (nv_t12 rfl ?_)
        refine w_opN (env' := _) rfl rfl rfl (fun _ h => h) (nv_t12 rfl ?_)
        refine w_end rfl ?_
        refine vc_true rfl ?_
        refine vc_seq ?_
        refine w_region ?_
        refine w_opN (env' := _) rfl rfl rfl (fun _ h => h) (nv_t12 rfl ?_)
        refine w_opN (env' := _) rfl rfl rfl (fun _ h => h) (nv_t12 rfl ?_)
        refine w_end rfl ?_
        refine vc_ret ?_
        refine r_then ?_
        refine r_block ?_
        refine r_then ?_
        refine r_then ?_
        refine r_block ?_
        refine r_then ?_
        refine r_fn rfl ?_
        -- return 1
        have hk : okP [.int .i64 pg, .int .i64 a, b] = false := okP_f (by have := of_decide_eq_true hg22; omega)
        show some (AV.tup [.nils, .bool false]) = some (pieces (lrows l))
        rw [pieces, scan_bad hI hri hk]
      · skip
        refine w_norm (env' := (_ :: _ :: _ :: _ :: _ :: _ :: _ :: _ :: _ :: _ :: _ :: _ :: _ :: _ :: _ :: _ :: _ :: _ :: _ :: _ :: _ :: _ :: _ :: _ :: _ :: _ :: _ :: _ :: _ :: _ :: _ :: _ :: _ :: _ :: _ :: _ :: _ :: _ :: _ :: _ :: _ :: _ :: _ :: _ :: _ :: _ :: _ :: _ :: _ :: _ :: _ :: _ :: _ :: _ :: _ :: _ :: _ :: _ :: _ :: _ :: _ :: _ :: _ :: _ :: _ :: _ :: _ :: _ :: _ :: _ :: _ :: _ :: _ :: _ :: _ :: _ :: _ :: _ :: _ :: _ :: _ :: _ :: _ :: _ :: _ :: _ :: _ :: _ :: [])) (H' := [pobj 3 1 pgs, .arr 31 3 [[_, _, _]]]) rfl rfl ?_
        refine w_opN (v := .ptr 1 0 1) (env' := _) (wanted_t 22 (by kernel_rfl) rfl) rfl rfl (fun _ h => h) (nv_t12 rfl ?_)
        refine w_opN (env' := _) (wanted_t 22 (by kernel_rfl) rfl) rfl rfl (fun _ h => h) (nv_t12 rfl ?_)
        refine w_opN (env' := _) (wanted_t 22 (by kernel_rfl) rfl) rfl rfl (fun _ h => h) (nv_t12 rfl ?_)
        refine w_opN (env' := _) rfl rfl rfl (fun _ h => h) (nv_t12 rfl ?_)
        refine w_opN (env' := _) rfl rfl rfl (fun _ h => h) (nv_t12 rfl ?_)
        refine w_split 27 rfl (fun hg27 => ?_) (fun hg27 => ?_)
        · skip
          refine w_norm (env' := (_ :: _ :: _ :: _ :: _ :: _ :: _ :: _ :: _ :: _ :: _ :: _ :: _ :: _ :: _ :: _ :: _ :: _ :: _ :: _ :: _ :: _ :: _ :: _ :: _ :: _ :: _ :: _ :: _ :: _ :: _ :: _ :: _ :: _ :: _ :: _ :: _ :: _ :: _ :: _ :: _ :: _ :: _ :: _ :: _ :: _ :: _ :: _ :: _ :: _ :: _ :: _ :: _ :: _ :: _ :: _ :: _ :: _ :: _ :: _ :: _ :: _ :: _ :: _ :: _ :: _ :: _ :: _ :: _ :: _ :: _ :: _ :: _ :: _ :: _ :: _ :: _ :: _ :: _ :: _ :: _ :: _ :: _ :: _ :: _ :: _ :: _ :: _ :: [])) (H' := [pobj 3 1 pgs, .arr 31 3 [[_, _, _]]]) rfl rfl ?_
          refine w_skipN (env' := _) (wanted_f 27 (by kernel_rfl) rfl) rfl (nv_t12 rfl ?_)
          refine w_skipN (env' := _) (wanted_f 27 (by kernel_rfl) rfl) rfl (nv_t12 rfl ?_)
          refine w_skipN (env' := _) (wanted_f 27 (by kernel_rfl) rfl) rfl (nv_t12 rfl ?_)
          refine w_opN (env' := _) rfl rfl rfl (fun _ h => h) (nv_t12 rfl ?_)
          refine w_opN (env' := _) rfl rfl rfl (fun _ h => h) (nv_t12 rfl ?_)
          refine w_skipN (env' := _) (wanted_f 32 (by kernel_rfl) rfl) rfl (nv_t12 rfl ?_)
          refine w_skipN (env' := _) (wanted_f 32 (by kernel_rfl) rfl) rfl (nv_t12 rfl ?_)
          refine w_skipN (env' := _) (wanted_f 32 (by kernel_rfl) rfl) rfl (nv_t12 rfl ?_)
          refine w_skipN (env' := _) (wanted_f 32 (by kernel_rfl) rfl) rfl (nv_t12 rfl ?_)
          refine w_opN (env' := _) rfl rfl rfl (fun _ h => h) (nv_t12 rfl ?_)
          refine w_opN (env' := _) rfl rfl rfl (fun _ h => h) (nv_t12 rfl ?_)
          refine w_skipN (env' := _) (wanted_f 38 (by kernel_rfl) rfl) rfl (nv_t12 rfl ?_)
          refine w_skipN (env' := _) (wanted_f 38 (by kernel_rfl) rfl) rfl (nv_t12 rfl ?_)
          refine w_skipN (env' := _) (wanted_f 38 (by kernel_rfl) rfl) rfl (nv_t12 rfl ?_)
          refine w_skipN (env' := _) (wanted_f 38 (by kernel_rfl) rfl) rfl (nv_t12 rfl ?_)
          refine w_skipN (env' := _) (wanted_f 38 (by kernel_rfl) rfl) rfl (nv_t12 rfl ?_)
          refine w_skipN (env' := _) (wanted_f 38 (by kernel_rfl) rfl) rfl (nv_t12 rfl ?_)
          refine w_skipN (env' := _) (wanted_f 38 (by kernel_rfl) rfl) rfl (nv_t12 rfl ?_)
          refine w_opN (env' := _) rfl rfl rfl (fun _ h => h) (nv_t12 rfl ?_)
          refine w_end rfl ?_
          refine vc_true rfl ?_
          refine vc_seq ?_
          refine w_region ?_
          refine w_opN (env' := _) rfl rfl rfl (fun _ h => h) (nv_t12 rfl ?_)
          refine w_opN (env' := _) rfl rfl rfl (fun _ h => h) (nv_t12 rfl ?_)
          refine w_end rfl ?_
          refine vc_ret ?_
          refine r_then ?_
          refine r_block ?_
          refine r_then ?_
          refine r_then ?_
          refine r_block ?_
          refine r_then ?_
          refine r_fn rfl ?_
          -- return 2
          have hk : okP [.int .i64 pg, .int .i64 a, b] = false := okP_f (by have := of_decide_eq_true hg27; omega)
          show some (AV.tup [.nils, .bool false]) = some (pieces (lrows l))
          rw [pieces, scan_bad hI hri hk]
        · skip
          refine w_norm (env' := (_ :: _ :: _ :: _ :: _ :: _ :: _ :: _ :: _ :: _ :: _ :: _ :: _ :: _ :: _ :: _ :: _ :: _ :: _ :: _ :: _ :: _ :: _ :: _ :: _ :: _ :: _ :: _ :: _ :: _ :: _ :: _ :: _ :: _ :: _ :: _ :: _ :: _ :: _ :: _ :: _ :: _ :: _ :: _ :: _ :: _ :: _ :: _ :: _ :: _ :: _ :: _ :: _ :: _ :: _ :: _ :: _ :: _ :: _ :: _ :: _ :: _ :: _ :: _ :: _ :: _ :: _ :: _ :: _ :: _ :: _ :: _ :: _ :: _ :: _ :: _ :: _ :: _ :: _ :: _ :: _ :: _ :: _ :: _ :: _ :: _ :: _ :: _ :: [])) (H' := [pobj 3 1 pgs, .arr 31 3 [[_, _, _]]]) rfl rfl ?_
          refine w_opN (v := .ptr 1 0 1) (env' := _) (wanted_t 27 (by kernel_rfl) rfl) rfl rfl (fun _ h => h) (nv_t12 rfl ?_)
          refine w_opN (env' := _) (wanted_t 27 (by kernel_rfl) rfl) rfl rfl (fun _ h => h) (nv_t12 rfl ?_)
          refine w_opN (env' := _) (wanted_t 27 (by kernel_rfl) rfl) rfl rfl (fun _ h => h) (nv_t12 rfl ?_)
          refine w_opN (env' := _) rfl rfl rfl (fun _ h => h) (nv_t12 rfl ?_)
          refine w_opN (env' := _) rfl rfl rfl (fun _ h => h) (nv_t12 rfl ?_)
          refine w_split 32 rfl (fun hg32 => ?_) (fun hg32 => ?_)
          · skip
            refine w_norm (env' := (_ :: _ :: _ :: _ :: _ :: _ :: _ :: _ :: _ :: _ :: _ :: _ :: _ :: _ :: _ :: _ :: _ :: _ :: _ :: _ :: _ :: _ :: _ :: _ :: _ :: _ :: _ :: _ :: _ :: _ :: _ :: _ :: _ :: _ :: _ :: _ :: _ :: _ :: _ :: _ :: _ :: _ :: _ :: _ :: _ :: _ :: _ :: _ :: _ :: _ :: _ :: _ :: _ :: _ :: _ :: _ :: _ :: _ :: _ :: _ :: _ :: _ :: _ :: _ :: _ :: _ :: _ :: _ :: _ :: _ :: _ :: _ :: _ :: _ :: _ :: _ :: _ :: _ :: _ :: _ :: _ :: _ :: _ :: _ :: _ :: _ :: _ :: _ :: [])) (H' := [pobj 3 1 pgs, .arr 31 3 [[_, _, _]]]) rfl rfl ?_
            refine w_skipN (env' := _) (wanted_f 32 (by kernel_rfl) rfl) rfl (nv_t12 rfl ?_)
            refine w_skipN (env' := _) (wanted_f 32 (by kernel_rfl) rfl) rfl (nv_t12 rfl ?_)
            refine w_skipN (env' := _) (wanted_f 32 (by kernel_rfl) rfl) rfl (nv_t12 rfl ?_)
            refine w_skipN (env' := _) (wanted_f 32 (by kernel_rfl) rfl) rfl (nv_t12 rfl ?_)
            refine w_opN (env' := _) rfl rfl rfl (fun _ h => h) (nv_t12 rfl ?_)
            refine w_opN (env' := _) rfl rfl rfl (fun _ h => h) (nv_t12 rfl ?_)
            refine w_skipN (env' := _) (wanted_f 38 (by kernel_rfl) rfl) rfl (nv_t12 rfl ?_)
            refine w_skipN (env' := _) (wanted_f 38 (by kernel_rfl) rfl) rfl (nv_t12 rfl ?_)
            refine w_skipN (env' := _) (wanted_f 38 (by kernel_rfl) rfl) rfl (nv_t12 rfl ?_)
            refine w_skipN (env' := _) (wanted_f 38 (by kernel_rfl) rfl) rfl (nv_t12 rfl ?_)
            refine w_skipN (env' := _) (wanted_f 38 (by kernel_rfl) rfl) rfl (nv_t12 rfl ?_)
            refine w_skipN (env' := _) (wanted_f 38 (by kernel_rfl) rfl) rfl (nv_t12 rfl ?_)
            refine w_skipN (env' := _) (wanted_f 38 (by kernel_rfl) rfl) rfl (nv_t12 rfl ?_)
            refine w_opN (env' := _) rfl rfl rfl (fun _ h => h) (nv_t12 rfl ?_)
            refine w_end rfl ?_
            refine vc_true rfl ?_
            refine vc_seq ?_
            refine w_region ?_
            refine w_opN (env' := _) rfl rfl rfl (fun _ h => h) (nv_t12 rfl ?_)
            refine w_opN (env' := _) rfl rfl rfl (fun _ h => h) (nv_t12 rfl ?_)
            refine w_end rfl ?_
            refine vc_ret ?_
            refine r_then ?_
            refine r_block ?_
            refine r_then ?_
            refine r_then ?_
            refine r_block ?_
            refine r_then ?_
            refine r_fn rfl ?_
            -- return 3
            have hk : okP [.int .i64 pg, .int .i64 a, b] = false := okP_f (by have := of_decide_eq_true hg32; omega)
            show some (AV.tup [.nils, .bool false]) = some (pieces (lrows l))
            rw [pieces, scan_bad hI hri hk]
          · skip
            refine w_norm (env' := (_ :: _ :: _ :: _ :: _ :: _ :: _ :: _ :: _ :: _ :: _ :: _ :: _ :: _ :: _ :: _ :: _ :: _ :: _ :: _ :: _ :: _ :: _ :: _ :: _ :: _ :: _ :: _ :: _ :: _ :: _ :: _ :: _ :: _ :: _ :: _ :: _ :: _ :: _ :: _ :: _ :: _ :: _ :: _ :: _ :: _ :: _ :: _ :: _ :: _ :: _ :: _ :: _ :: _ :: _ :: _ :: _ :: _ :: _ :: _ :: _ :: _ :: _ :: _ :: _ :: _ :: _ :: _ :: _ :: _ :: _ :: _ :: _ :: _ :: _ :: _ :: _ :: _ :: _ :: _ :: _ :: _ :: _ :: _ :: _ :: _ :: _ :: _ :: [])) (H' := [pobj 3 1 pgs, .arr 31 3 [[_, _, _]]]) rfl rfl ?_
            refine w_opN (v := .ptr 1 0 2) (env' := _) (wanted_t 32 (by kernel_rfl) rfl) rfl rfl (fun _ h => h) (nv_t12 rfl ?_)
            refine w_opN (env' := _) (wanted_t 32 (by kernel_rfl) rfl) rfl rfl (fun _ h => h) (nv_t12 rfl ?_)
            first | refine w_opN (env' := _) (wanted_t 32 (by kernel_rfl) rfl) rfl rfl (fun _ h => h) (nv_t12 rfl ?_) | refine x_len (env' := _) (wanted_t 32 (by kernel_rfl) rfl) rfl (by assumption) Tryd.underlying29 rfl (nv_t12 rfl ?_)
            refine w_opN (env' := _) (wanted_t 32 (by kernel_rfl) rfl) rfl rfl (fun _ h => h) (nv_t12 rfl ?_)
            refine w_opN (env' := _) rfl rfl rfl (fun _ h => h) (nv_t12 rfl ?_)
            refine w_opN (env' := _) rfl rfl rfl (fun _ h => h) (nv_t12 rfl ?_)
            refine w_split 38 rfl (fun hg38 => ?_) (fun hg38 => ?_)
            · skip
              refine w_norm (env' := (_ :: _ :: _ :: _ :: _ :: _ :: _ :: _ :: _ :: _ :: _ :: _ :: _ :: _ :: _ :: _ :: _ :: _ :: _ :: _ :: _ :: _ :: _ :: _ :: _ :: _ :: _ :: _ :: _ :: _ :: _ :: _ :: _ :: _ :: _ :: _ :: _ :: _ :: _ :: _ :: _ :: _ :: _ :: _ :: _ :: _ :: _ :: _ :: _ :: _ :: _ :: _ :: _ :: _ :: _ :: _ :: _ :: _ :: _ :: _ :: _ :: _ :: _ :: _ :: _ :: _ :: _ :: _ :: _ :: _ :: _ :: _ :: _ :: _ :: _ :: _ :: _ :: _ :: _ :: _ :: _ :: _ :: _ :: _ :: _ :: _ :: _ :: _ :: [])) (H' := [pobj 3 1 pgs, .arr 31 3 [[_, _, _]]]) rfl rfl ?_
              refine w_skipN (env' := _) (wanted_f 38 (by kernel_rfl) rfl) rfl (nv_t12 rfl ?_)
              refine w_skipN (env' := _) (wanted_f 38 (by kernel_rfl) rfl) rfl (nv_t12 rfl ?_)
              refine w_skipN (env' := _) (wanted_f 38 (by kernel_rfl) rfl) rfl (nv_t12 rfl ?_)
              refine w_skipN (env' := _) (wanted_f 38 (by kernel_rfl) rfl) rfl (nv_t12 rfl ?_)
              refine w_skipN (env' := _) (wanted_f 38 (by kernel_rfl) rfl) rfl (nv_t12 rfl ?_)
              refine w_skipN (env' := _) (wanted_f 38 (by kernel_rfl) rfl) rfl (nv_t12 rfl ?_)
              refine w_skipN (env' := _) (wanted_f 38 (by kernel_rfl) rfl) rfl (nv_t12 rfl ?_)
              refine w_opN (env' := _) rfl rfl rfl (fun _ h => h) (nv_t12 rfl ?_)
              refine w_end rfl ?_
              refine vc_true rfl ?_
              refine vc_seq ?_
              refine w_region ?_
              refine w_opN (env' := _) rfl rfl rfl (fun _ h => h) (nv_t12 rfl ?_)
              refine w_opN (env' := _) rfl rfl rfl (fun _ h => h) (nv_t12 rfl ?_)
              refine w_end rfl ?_
              refine vc_ret ?_
              refine r_then ?_
              refine r_block ?_
              refine r_then ?_
              refine r_then ?_
              refine r_block ?_
              refine r_then ?_
              refine r_fn rfl ?_
              -- return 4
              have hk : okP [.int .i64 pg, .int .i64 a, b] = false := okP_f (by have := of_decide_eq_true hg38; omega)
              show some (AV.tup [.nils, .bool false]) = some (pieces (lrows l))
              rw [pieces, scan_bad hI hri hk]
            · skip
              refine w_norm (env' := (_ :: _ :: _ :: _ :: _ :: _ :: _ :: _ :: _ :: _ :: _ :: _ :: _ :: _ :: _ :: _ :: _ :: _ :: _ :: _ :: _ :: _ :: _ :: _ :: _ :: _ :: _ :: _ :: _ :: _ :: _ :: _ :: _ :: _ :: _ :: _ :: _ :: _ :: _ :: _ :: _ :: _ :: _ :: _ :: _ :: _ :: _ :: _ :: _ :: _ :: _ :: _ :: _ :: _ :: _ :: _ :: _ :: _ :: _ :: _ :: _ :: _ :: _ :: _ :: _ :: _ :: _ :: _ :: _ :: _ :: _ :: _ :: _ :: _ :: _ :: _ :: _ :: _ :: _ :: _ :: _ :: _ :: _ :: _ :: _ :: _ :: _ :: _ :: [])) (H' := [pobj 3 1 pgs, .arr 31 3 [[_, _, _]]]) rfl rfl ?_
              refine w_opN (v := .ptr 1 0 2) (env' := _) (wanted_t 38 (by kernel_rfl) rfl) rfl rfl (fun _ h => h) (nv_t12 rfl ?_)
              refine w_opN (env' := _) (wanted_t 38 (by kernel_rfl) rfl) rfl rfl (fun _ h => h) (nv_t12 rfl ?_)
              first | refine w_opN (env' := _) (wanted_t 38 (by kernel_rfl) rfl) rfl rfl (fun _ h => h) (nv_t12 rfl ?_) | refine x_len (env' := _) (wanted_t 38 (by kernel_rfl) rfl) rfl (by assumption) Tryd.underlying29 rfl (nv_t12 rfl ?_)
              refine w_opN (v := .ptr 1 0 1) (env' := _) (wanted_t 38 (by kernel_rfl) rfl) rfl rfl (fun _ h => h) (nv_t12 rfl ?_)
              refine w_opN (env' := _) (wanted_t 38 (by kernel_rfl) rfl) rfl rfl (fun _ h => h) (nv_t12 rfl ?_)
              refine w_opH (v := .int .i64 (128 - a)) (env' := _) (H2 := [pobj 3 1 pgs, .arr 31 3 [[_, _, _]]]) (wanted_t 38 (by kernel_rfl) rfl) (int_eq (i64_small (by have := of_decide_eq_false hg27; have := of_decide_eq_false hg32; omega) (by have := of_decide_eq_false hg27; omega))) rfl (rfl) (fun _ h => h) (nv_t12 rfl ?_)
              refine w_opN (env' := _) (wanted_t 38 (by kernel_rfl) rfl) rfl rfl (fun _ h => h) (nv_t12 rfl ?_)
              refine w_opN (env' := _) rfl rfl rfl (fun _ h => h) (nv_t12 rfl ?_)
              refine w_end rfl ?_
              refine vc_cond rfl (fun hc46 => ?_) (fun hc46 => ?_)
              · skip
                refine vc_seq ?_
                refine w_region ?_
                refine w_opN (env' := _) rfl rfl rfl (fun _ h => h) (nv_t12 rfl ?_)
                refine w_opN (env' := _) rfl rfl rfl (fun _ h => h) (nv_t12 rfl ?_)
                refine w_end rfl ?_
                refine vc_ret ?_
                refine r_then ?_
                refine r_block ?_
                refine r_then ?_
                refine r_then ?_
                refine r_block ?_
                refine r_then ?_
                refine r_fn rfl ?_
                -- return 5
                have hk : okP [.int .i64 pg, .int .i64 a, b] = false := okP_f (by have := of_decide_eq_true hc46; omega)
                show some (AV.tup [.nils, .bool false]) = some (pieces (lrows l))
                rw [pieces, scan_bad hI hri hk]
              · skip
                have hk : okP [.int .i64 pg, .int .i64 a, b] = true := okP_t (by have := of_decide_eq_false hg17; have := of_decide_eq_false hg22; have := of_decide_eq_false hg27; have := of_decide_eq_false hg32; have := of_decide_eq_false hg38; have := of_decide_eq_false hc46; omega)
                have hkb := okP_bounds hk
                refine vc_skip ?_
                refine n_then ?_
                refine vc_seq ?_
                refine vc_seq ?_
                refine w_regionD (by kernel_rfl) ?_
                refine d_opH (env' := _) (H2 := [pobj 3 1 pgs, .arr 31 3 [[_, _, _]]]) rfl rfl (.inr rfl) rfl rfl (fun _ h => h) (nd_t12 rfl ?_)
                refine d_opH (env' := _) (H2 := [pobj 3 1 pgs, .arr 31 3 [[_, _, _]]]) rfl rfl (.inr rfl) rfl rfl (fun _ h => h) (nd_t12 rfl ?_)
                refine d_opH (env' := _) (H2 := [pobj 3 1 pgs, .arr 31 3 [[_, _, _]]]) rfl rfl (.inr rfl) rfl rfl (fun _ h => h) (nd_t12 rfl ?_)
                refine d_split 49 rfl (fun hg49 => ?_) (fun hg49 => ?_)
                · skip
                  refine d_norm (env' := (_ :: _ :: _ :: _ :: _ :: _ :: _ :: _ :: _ :: _ :: _ :: _ :: _ :: _ :: _ :: _ :: _ :: _ :: _ :: _ :: _ :: _ :: _ :: _ :: _ :: _ :: _ :: _ :: _ :: _ :: _ :: _ :: _ :: _ :: _ :: _ :: _ :: _ :: _ :: _ :: _ :: _ :: _ :: _ :: _ :: _ :: _ :: _ :: _ :: _ :: _ :: _ :: _ :: _ :: _ :: _ :: _ :: _ :: _ :: _ :: _ :: _ :: _ :: _ :: _ :: _ :: _ :: _ :: _ :: _ :: _ :: _ :: _ :: _ :: _ :: _ :: _ :: _ :: _ :: _ :: _ :: _ :: _ :: _ :: _ :: _ :: _ :: _ :: [])) (H' := [pobj 3 1 pgs, .arr 31 3 [[_, _, _]]]) rfl rfl ?_
                  refine d_skipN (env' := _) (wanted_f 49 (by kernel_rfl) rfl) rfl (nd_t12 rfl ?_)
                  refine d_skipN (env' := _) (wanted_f 49 (by kernel_rfl) rfl) rfl (nd_t12 rfl ?_)
                  refine d_skipN (env' := _) (wanted_f 49 (by kernel_rfl) rfl) rfl (nd_t12 rfl ?_)
                  refine d_skipN (env' := _) (wanted_f 49 (by kernel_rfl) rfl) rfl (nd_t12 rfl ?_)
                  refine d_skipN (env' := _) (wanted_f 49 (by kernel_rfl) rfl) rfl (nd_t12 rfl ?_)
                  refine d_skipN (env' := _) (wanted_f 49 (by kernel_rfl) rfl) rfl (nd_t12 rfl ?_)
                  refine d_skipN (env' := _) (wanted_f 49 (by kernel_rfl) rfl) rfl (nd_t12 rfl ?_)
                  refine d_skipN (env' := _) (wanted_f 49 (by kernel_rfl) rfl) rfl (nd_t12 rfl ?_)
                  refine d_skipN (env' := _) (wanted_f 49 (by kernel_rfl) rfl) rfl (nd_t12 rfl ?_)
                  refine d_opH (env' := _) (H2 := [pobj 3 1 pgs, .arr 31 3 [[_, _, _]]]) rfl rfl (.inr rfl) rfl rfl (fun _ h => h) (nd_t12 rfl ?_)
                  refine d_end rfl ?_
                  refine vc_true rfl ?_
                  refine vc_seq ?_
                  refine w_region ?_
                  refine w_opN (env' := _) rfl rfl rfl (fun _ h => h) (nv_t12 rfl ?_)
                  refine w_opN (v := .ptr 1 0 0) (env' := _) rfl rfl rfl (fun _ h => h) (nv_t12 rfl ?_)
                  refine w_opN (env' := _) rfl rfl rfl (fun _ h => h) (nv_t12 rfl ?_)
                  refine w_opN (env' := _) rfl rfl rfl (fun _ h => h) (nv_t12 rfl ?_)
                  refine w_opH (v := .row false 2 0 (pgs.length + 1)) (env' := _) (H2 := [.dead, _, .arr 3 1 (pgs ++ [[.int .i64 pg]])]) rfl (acc_append (H := [pobj 3 1 pgs, .arr 31 3 [[.int .i64 pg, .int .i64 a, b]]]) (pgs := pgs) (news := [[.int .i64 pg]]) (x := .list .tight [[.int .i64 pg]]) (L := 0) (sz := 1) rfl el26 Tryd.underlying26 rfl zc3 by3 rfl rfl (by decide) (by decide) rfl rfl (by simp) rfl (by have := hI.len; simp; omega)) rfl (rfl) (fun _ h => h) (nv_t12 rfl ?_)
                  refine w_opN (env' := _) rfl rfl rfl (fun _ h => h) (nv_t12 rfl ?_)
                  refine w_end rfl ?_
                  refine vc_exit ?_
                  refine x_then ?_
                  refine x_same ?_
                  refine n_then ?_
                  refine w_region ?_
                  refine w_opN (env' := _) rfl rfl rfl (fun _ h => h) (nv_t12 rfl ?_)
                  refine w_opN (env' := _) rfl rfl rfl (fun _ h => h) (nv_t12 rfl ?_)
                  refine w_end rfl ?_
                  refine hY0 ⟨(i + 1, pgs ++ [[.int .i64 pg]]), scan_new hI hri hk (.inl (by simpa using hg49))⟩ (by have := hI.le; simp only; omega) _ _ [2] ⟨(by first | exact .inr rfl | exact .inr (IsL.ren1 (by assumption))), .inl rfl, (.inr (pval_snoc rfl)), .inl rfl, .inl rfl, .inl rfl, .inl rfl, (by first | exact .inr rfl | exact .inr (IsL.ren1 (by assumption))), (by first | exact .inr rfl | exact .inr (IsL.ren1 (by assumption))), (.inr ?_), .inl rfl, .inl rfl, .inl rfl, .inl rfl, .inl rfl, .inl rfl, .inl rfl, .inl rfl, .inl rfl, .inl rfl, .inl rfl, .inl rfl, .inl rfl, .inl rfl, .inl rfl, .inl rfl, .inl rfl, .inl rfl, .inl rfl, .inl rfl, .inl rfl, .inl rfl, .inl rfl, .inl rfl, .inl rfl, .inl rfl, .inl rfl, .inl rfl, .inl rfl, .inl rfl, .inl rfl, .inl rfl, .inl rfl, .inl rfl, .inl rfl, .inl rfl, .inl rfl, .inl rfl, .inl rfl, .inl rfl, .inl rfl, .inl rfl, .inl rfl, .inl rfl, .inl rfl, .inl rfl, .inl rfl, .inl rfl, .inl rfl, .inl rfl, .inl rfl, .inl rfl, .inl rfl, .inl rfl, .inl rfl, .inl rfl, .inl rfl, .inl rfl, .inl rfl, .inl rfl, .inl rfl, .inl rfl, .inl rfl, .inl rfl, .inl rfl, .inl rfl, .inl rfl, .inl rfl, .inl rfl, .inl rfl, .inl rfl, .inl rfl, .inl rfl, .inl rfl, .inl rfl, .inl rfl, .inl rfl, .inl rfl, trivial⟩ (by decide) (fun _ h => absurd h (by omega)) ⟨.inr ⟨_, rfl, pobj_snoc (scan_new hI hri hk (.inl (by simpa using hg49))).val⟩, trivial⟩
                  exact congrArg some (int_succ (by omega)).symm
                · skip
                  have hi0 : 0 < i := by simp at hg49; omega
                  have hrq : (lrows l)[i - 1]? = some (lrows l)[i - 1] := List.getElem?_eq_getElem (by omega)
                  obtain ⟨qpg, qa, qb, hqx, hLq, hq1, hq2⟩ := hp _ (List.getElem_mem (show i - 1 < (lrows l).length by omega))
                  rw [hqx] at hrq
                  have hkq := okP_bounds (hI.ok (i - 1) _ (by omega) hrq)
                  refine d_norm (env' := (_ :: _ :: _ :: _ :: _ :: _ :: _ :: _ :: _ :: _ :: _ :: _ :: _ :: _ :: _ :: _ :: _ :: _ :: _ :: _ :: _ :: _ :: _ :: _ :: _ :: _ :: _ :: _ :: _ :: _ :: _ :: _ :: _ :: _ :: _ :: _ :: _ :: _ :: _ :: _ :: _ :: _ :: _ :: _ :: _ :: _ :: _ :: _ :: _ :: _ :: _ :: _ :: _ :: _ :: _ :: _ :: _ :: _ :: _ :: _ :: _ :: _ :: _ :: _ :: _ :: _ :: _ :: _ :: _ :: _ :: _ :: _ :: _ :: _ :: _ :: _ :: _ :: _ :: _ :: _ :: _ :: _ :: _ :: _ :: _ :: _ :: _ :: _ :: [])) (H' := [pobj 3 1 pgs, .arr 31 3 [[_, _, _]]]) rfl rfl ?_
                  refine d_opH (v := .ptr 1 0 0) (env' := _) (H2 := [pobj 3 1 pgs, .arr 31 3 [[_, _, _]]]) (wanted_t 49 (by kernel_rfl) rfl) rfl (.inr rfl) rfl rfl (fun _ h => h) (nd_t12 rfl ?_)
                  refine d_opH (env' := _) (H2 := [pobj 3 1 pgs, .arr 31 3 [[_, _, _]]]) (wanted_t 49 (by kernel_rfl) rfl) rfl (.inr rfl) rfl rfl (fun _ h => h) (nd_t12 rfl ?_)
                  refine d_opH (env' := _) (H2 := [pobj 3 1 pgs, .arr 31 3 [[_, _, _]]]) (wanted_t 49 (by kernel_rfl) rfl) rfl (.inr rfl) rfl rfl (fun _ h => h) (nd_t12 rfl ?_)
                  refine d_opH (env' := _) (H2 := [pobj 3 1 pgs, .arr 31 3 [[_, _, _]]]) (wanted_t 49 (by kernel_rfl) rfl) rfl (.inr rfl) rfl rfl (fun _ h => h) (nd_t12 rfl ?_)
                  refine d_opH (v := .int .i64 ((i - 1 : Nat) : Int)) (env' := _) (H2 := [pobj 3 1 pgs, .arr 31 3 [[_, _, _]]]) (wanted_t 49 (by kernel_rfl) rfl) (int_eq (wrap_pred hi0 (by omega))) (.inr rfl) rfl (rfl) (fun _ h => h) (nd_t12 rfl ?_)
                  first | refine d_opH (v := .iptr _ [_, _, _]) (env' := _) (H2 := [pobj 3 1 pgs, .arr 31 3 [[_, _, _]]]) (wanted_t 49 (by kernel_rfl) rfl) rfl (.inr rfl) rfl rfl (fun _ h => h) (nd_t12 rfl ?_) | (refine y_index (wanted_t 49 (by kernel_rfl) rfl) rfl (by assumption) rfl el25 (by omega) (by assumption) rfl (fun bo => ?_); refine nd_t12 rfl ?_)
                  refine d_opH (v := .iptr _ [_, _, _]) (env' := _) (H2 := [pobj 3 1 pgs, .arr 31 3 [[_, _, _]]]) (wanted_t 49 (by kernel_rfl) rfl) rfl (.inr rfl) rfl rfl (fun _ h => h) (nd_t12 rfl ?_)
                  refine d_opH (env' := _) (H2 := [pobj 3 1 pgs, .arr 31 3 [[_, _, _]]]) (wanted_t 49 (by kernel_rfl) rfl) rfl (.inr rfl) rfl rfl (fun _ h => h) (nd_t12 rfl ?_)
                  refine d_opH (env' := _) (H2 := [pobj 3 1 pgs, .arr 31 3 [[_, _, _]]]) (wanted_t 49 (by kernel_rfl) rfl) rfl (.inr rfl) rfl rfl (fun _ h => h) (nd_t12 rfl ?_)
                  refine d_opH (env' := _) (H2 := [pobj 3 1 pgs, .arr 31 3 [[_, _, _]]]) rfl rfl (.inr rfl) rfl rfl (fun _ h => h) (nd_t12 rfl ?_)
                  refine d_end rfl ?_
                  refine vc_cond rfl (fun hc59 => ?_) (fun hc59 => ?_)
                  · skip
                    refine vc_seq ?_
                    refine w_region ?_
                    refine w_opN (env' := _) rfl rfl rfl (fun _ h => h) (nv_t12 rfl ?_)
                    refine w_opN (v := .ptr 1 0 0) (env' := _) rfl rfl rfl (fun _ h => h) (nv_t12 rfl ?_)
                    refine w_opN (env' := _) rfl rfl rfl (fun _ h => h) (nv_t12 rfl ?_)
                    refine w_opN (env' := _) rfl rfl rfl (fun _ h => h) (nv_t12 rfl ?_)
                    refine w_opH (v := .row false 2 0 (pgs.length + 1)) (env' := _) (H2 := [.dead, _, .arr 3 1 (pgs ++ [[.int .i64 pg]])]) rfl (acc_append (H := [pobj 3 1 pgs, .arr 31 3 [[.int .i64 pg, .int .i64 a, b]]]) (pgs := pgs) (news := [[.int .i64 pg]]) (x := .list .tight [[.int .i64 pg]]) (L := 0) (sz := 1) rfl el26 Tryd.underlying26 rfl zc3 by3 rfl rfl (by decide) (by decide) rfl rfl (by simp) rfl (by have := hI.len; simp; omega)) rfl (rfl) (fun _ h => h) (nv_t12 rfl ?_)
                    refine w_opN (env' := _) rfl rfl rfl (fun _ h => h) (nv_t12 rfl ?_)
                    refine w_end rfl ?_
                    refine vc_exit ?_
                    refine x_then ?_
                    refine x_same ?_
                    refine n_then ?_
                    refine w_region ?_
                    refine w_opN (env' := _) rfl rfl rfl (fun _ h => h) (nv_t12 rfl ?_)
                    refine w_opN (env' := _) rfl rfl rfl (fun _ h => h) (nv_t12 rfl ?_)
                    refine w_end rfl ?_
                    refine hY0 ⟨(i + 1, pgs ++ [[.int .i64 pg]]), scan_new hI hri hk (.inr ⟨_, hrq, of_decide_eq_true hc59⟩)⟩ (by have := hI.le; simp only; omega) _ _ [2] ⟨(by first | exact .inr rfl | exact .inr (IsL.ren1 (by assumption))), .inl rfl, (.inr (pval_snoc rfl)), .inl rfl, .inl rfl, .inl rfl, .inl rfl, (by first | exact .inr rfl | exact .inr (IsL.ren1 (by assumption))), (by first | exact .inr rfl | exact .inr (IsL.ren1 (by assumption))), (.inr ?_), .inl rfl, .inl rfl, .inl rfl, .inl rfl, .inl rfl, .inl rfl, .inl rfl, .inl rfl, .inl rfl, .inl rfl, .inl rfl, .inl rfl, .inl rfl, .inl rfl, .inl rfl, .inl rfl, .inl rfl, .inl rfl, .inl rfl, .inl rfl, .inl rfl, .inl rfl, .inl rfl, .inl rfl, .inl rfl, .inl rfl, .inl rfl, .inl rfl, .inl rfl, .inl rfl, .inl rfl, .inl rfl, .inl rfl, .inl rfl, .inl rfl, .inl rfl, .inl rfl, .inl rfl, .inl rfl, .inl rfl, .inl rfl, .inl rfl, .inl rfl, .inl rfl, .inl rfl, .inl rfl, .inl rfl, .inl rfl, .inl rfl, .inl rfl, .inl rfl, .inl rfl, .inl rfl, .inl rfl, .inl rfl, .inl rfl, .inl rfl, .inl rfl, .inl rfl, .inl rfl, .inl rfl, .inl rfl, .inl rfl, .inl rfl, .inl rfl, .inl rfl, .inl rfl, .inl rfl, .inl rfl, .inl rfl, .inl rfl, .inl rfl, .inl rfl, .inl rfl, .inl rfl, .inl rfl, .inl rfl, .inl rfl, trivial⟩ (by decide) (fun _ h => absurd h (by omega)) ⟨.inr ⟨_, rfl, pobj_snoc (scan_new hI hri hk (.inr ⟨_, hrq, of_decide_eq_true hc59⟩)).val⟩, trivial⟩
                    exact congrArg some (int_succ (by omega)).symm
                  · skip
                    refine vc_skip ?_
                    refine n_then ?_
                    refine vc_seq ?_
                    refine w_region ?_
                    refine w_opN (env' := _) rfl rfl rfl (fun _ h => h) (nv_t12 rfl ?_)
                    refine w_opN (env' := _) rfl rfl rfl (fun _ h => h) (nv_t12 rfl ?_)
                    refine w_opH (v := .int .i64 ((i - 1 : Nat) : Int)) (env' := _) (H2 := [pobj 3 1 pgs, .arr 31 3 [[_, _, _]]]) rfl (int_eq (wrap_pred hi0 (by omega))) rfl (rfl) (fun _ h => h) (nv_t12 rfl ?_)
                    first | refine w_opN (v := .iptr _ [_, _, _]) (env' := _) rfl rfl rfl (fun _ h => h) (nv_t12 rfl ?_) | (refine x_index rfl rfl (by assumption) rfl el25 (by omega) (by assumption) rfl (fun bo => ?_); refine nv_t12 rfl ?_)
                    refine w_opN (v := .agg [_, _, _]) (env' := _) rfl rfl rfl (fun _ h => h) (nv_t12 rfl ?_)
                    refine w_opH (v := .ptr 2 0 0) (env' := _) (H2 := [pobj 3 1 pgs, .arr 31 3 [[_, _, _]], .arr 31 3 [[_, _, _]]]) rfl rfl rfl rfl (fun _ h => h) (nv_t12 rfl ?_)
                    refine w_op0N (H2 := [pobj 3 1 pgs, .arr 31 3 [[_, _, _]], .arr 31 3 [[_, _, _]]]) rfl rfl rfl (fun _ h => h) ?_
                    refine w_end rfl ?_
                    refine vc_seq ?_
                    refine w_region ?_
                    refine w_opN (v := .ptr 1 0 0) (env' := _) rfl rfl rfl (fun _ h => h) (nv_t12 rfl ?_)
                    refine w_opN (env' := _) rfl rfl rfl (fun _ h => h) (nv_t12 rfl ?_)
                    refine w_opN (v := .ptr 2 0 0) (env' := _) rfl rfl rfl (fun _ h => h) (nv_t12 rfl ?_)
                    refine w_opN (env' := _) rfl rfl rfl (fun _ h => h) (nv_t12 rfl ?_)
                    refine w_opN (env' := _) rfl rfl rfl (fun _ h => h) (nv_t12 rfl ?_)
                    refine w_opN (env' := _) rfl rfl rfl (fun _ h => h) (nv_t12 rfl ?_)
                    refine w_split 75 rfl (fun hg75 => ?_) (fun hg75 => ?_)
                    · skip
                      refine w_norm (env' := (_ :: _ :: _ :: _ :: _ :: _ :: _ :: _ :: _ :: _ :: _ :: _ :: _ :: _ :: _ :: _ :: _ :: _ :: _ :: _ :: _ :: _ :: _ :: _ :: _ :: _ :: _ :: _ :: _ :: _ :: _ :: _ :: _ :: _ :: _ :: _ :: _ :: _ :: _ :: _ :: _ :: _ :: _ :: _ :: _ :: _ :: _ :: _ :: _ :: _ :: _ :: _ :: _ :: _ :: _ :: _ :: _ :: _ :: _ :: _ :: _ :: _ :: _ :: _ :: _ :: _ :: _ :: _ :: _ :: _ :: _ :: _ :: _ :: _ :: _ :: _ :: _ :: _ :: _ :: _ :: _ :: _ :: _ :: _ :: _ :: _ :: _ :: _ :: [])) (H' := [pobj 3 1 pgs, .arr 31 3 [[_, _, _]], .arr 31 3 [[_, _, _]]]) rfl rfl ?_
                      refine w_skipN (env' := _) (wanted_f 75 (by kernel_rfl) rfl) rfl (nv_t12 rfl ?_)
                      refine w_skipN (env' := _) (wanted_f 75 (by kernel_rfl) rfl) rfl (nv_t12 rfl ?_)
                      refine w_skipN (env' := _) (wanted_f 75 (by kernel_rfl) rfl) rfl (nv_t12 rfl ?_)
                      refine w_skipN (env' := _) (wanted_f 75 (by kernel_rfl) rfl) rfl (nv_t12 rfl ?_)
                      refine w_skipN (env' := _) (wanted_f 75 (by kernel_rfl) rfl) rfl (nv_t12 rfl ?_)
                      refine w_skipN (env' := _) (wanted_f 75 (by kernel_rfl) rfl) rfl (nv_t12 rfl ?_)
                      refine w_skipN (env' := _) (wanted_f 75 (by kernel_rfl) rfl) rfl (nv_t12 rfl ?_)
                      refine w_skipN (env' := _) (wanted_f 75 (by kernel_rfl) rfl) rfl (nv_t12 rfl ?_)
                      refine w_skipN (env' := _) (wanted_f 75 (by kernel_rfl) rfl) rfl (nv_t12 rfl ?_)
                      refine w_opN (env' := _) rfl rfl rfl (fun _ h => h) (nv_t12 rfl ?_)
                      refine w_end rfl ?_
                      refine vc_true rfl ?_
                      refine vc_seq ?_
                      refine w_region ?_
                      refine w_opN (env' := _) rfl rfl rfl (fun _ h => h) (nv_t12 rfl ?_)
                      refine w_opN (env' := _) rfl rfl rfl (fun _ h => h) (nv_t12 rfl ?_)
                      refine w_end rfl ?_
                      refine vc_ret ?_
                      refine r_block ?_
                      refine r_then ?_
                      refine r_then ?_
                      refine r_block ?_
                      refine r_then ?_
                      refine r_fn rfl ?_
                      -- return 6
                      show some (AV.tup [.nils, .bool false]) = some (pieces (lrows l))
                      rw [pieces, scan_bad2 hI hri hk hi0 hrq (of_decide_eq_false hc59) (.inl (of_decide_eq_true hg75))]
                    · skip
                      refine w_norm (env' := (_ :: _ :: _ :: _ :: _ :: _ :: _ :: _ :: _ :: _ :: _ :: _ :: _ :: _ :: _ :: _ :: _ :: _ :: _ :: _ :: _ :: _ :: _ :: _ :: _ :: _ :: _ :: _ :: _ :: _ :: _ :: _ :: _ :: _ :: _ :: _ :: _ :: _ :: _ :: _ :: _ :: _ :: _ :: _ :: _ :: _ :: _ :: _ :: _ :: _ :: _ :: _ :: _ :: _ :: _ :: _ :: _ :: _ :: _ :: _ :: _ :: _ :: _ :: _ :: _ :: _ :: _ :: _ :: _ :: _ :: _ :: _ :: _ :: _ :: _ :: _ :: _ :: _ :: _ :: _ :: _ :: _ :: _ :: _ :: _ :: _ :: _ :: _ :: [])) (H' := [pobj 3 1 pgs, .arr 31 3 [[_, _, _]], .arr 31 3 [[_, _, _]]]) rfl rfl ?_
                      refine w_opN (v := .ptr 1 0 1) (env' := _) (wanted_t 75 (by kernel_rfl) rfl) rfl rfl (fun _ h => h) (nv_t12 rfl ?_)
                      refine w_opN (env' := _) (wanted_t 75 (by kernel_rfl) rfl) rfl rfl (fun _ h => h) (nv_t12 rfl ?_)
                      refine w_opN (v := .ptr 2 0 1) (env' := _) (wanted_t 75 (by kernel_rfl) rfl) rfl rfl (fun _ h => h) (nv_t12 rfl ?_)
                      refine w_opN (env' := _) (wanted_t 75 (by kernel_rfl) rfl) rfl rfl (fun _ h => h) (nv_t12 rfl ?_)
                      refine w_opN (v := .ptr 2 0 2) (env' := _) (wanted_t 75 (by kernel_rfl) rfl) rfl rfl (fun _ h => h) (nv_t12 rfl ?_)
                      refine w_opN (env' := _) (wanted_t 75 (by kernel_rfl) rfl) rfl rfl (fun _ h => h) (nv_t12 rfl ?_)
                      first | refine w_opN (env' := _) (wanted_t 75 (by kernel_rfl) rfl) rfl rfl (fun _ h => h) (nv_t12 rfl ?_) | refine x_len (env' := _) (wanted_t 75 (by kernel_rfl) rfl) rfl (by assumption) Tryd.underlying29 rfl (nv_t12 rfl ?_)
                      refine w_opH (v := .int .i64 (qa + ((lrows qb).length : Int))) (env' := _) (H2 := [pobj 3 1 pgs, .arr 31 3 [[_, _, _]], .arr 31 3 [[_, _, _]]]) (wanted_t 75 (by kernel_rfl) rfl) (int_eq (i64_small (by omega) (by omega))) rfl (rfl) (fun _ h => h) (nv_t12 rfl ?_)
                      refine w_opN (env' := _) (wanted_t 75 (by kernel_rfl) rfl) rfl rfl (fun _ h => h) (nv_t12 rfl ?_)
                      refine w_opN (env' := _) rfl rfl rfl (fun _ h => h) (nv_t12 rfl ?_)
                      refine w_end rfl ?_
                      refine vc_cond rfl (fun hc85 => ?_) (fun hc85 => ?_)
                      · skip
                        refine vc_seq ?_
                        refine w_region ?_
                        refine w_opN (env' := _) rfl rfl rfl (fun _ h => h) (nv_t12 rfl ?_)
                        refine w_opN (env' := _) rfl rfl rfl (fun _ h => h) (nv_t12 rfl ?_)
                        refine w_end rfl ?_
                        refine vc_ret ?_
                        refine r_block ?_
                        refine r_then ?_
                        refine r_then ?_
                        refine r_block ?_
                        refine r_then ?_
                        refine r_fn rfl ?_
                        -- return 7
                        show some (AV.tup [.nils, .bool false]) = some (pieces (lrows l))
                        rw [pieces, scan_bad2 hI hri hk hi0 hrq (of_decide_eq_false hc59) (.inr (of_decide_eq_true hc85))]
                      · skip
                        refine vc_skip ?_
                        refine n_block ?_
                        refine n_then ?_
                        refine w_region ?_
                        refine w_opN (env' := _) rfl rfl rfl (fun _ h => h) (nv_t12 rfl ?_)
                        refine w_opN (env' := _) rfl rfl rfl (fun _ h => h) (nv_t12 rfl ?_)
                        refine w_end rfl ?_
                        refine hY0 ⟨(i + 1, pgs), scan_same hI hri hk hi0 hrq (of_decide_eq_false hc59) (fun h => h.elim (of_decide_eq_false hg75) (of_decide_eq_false hc85))⟩ (by have := hI.le; simp only; omega) _ _ [0] ⟨(by first | exact .inr rfl | exact .inr (IsL.ren1 (by assumption))), .inl rfl, (.inr (pval_ren rfl)), .inl rfl, .inl rfl, .inl rfl, .inl rfl, (by first | exact .inr rfl | exact .inr (IsL.ren1 (by assumption))), (by first | exact .inr rfl | exact .inr (IsL.ren1 (by assumption))), (.inr ?_), .inl rfl, .inl rfl, .inl rfl, .inl rfl, .inl rfl, .inl rfl, .inl rfl, .inl rfl, .inl rfl, .inl rfl, .inl rfl, .inl rfl, .inl rfl, .inl rfl, .inl rfl, .inl rfl, .inl rfl, .inl rfl, .inl rfl, .inl rfl, .inl rfl, .inl rfl, .inl rfl, .inl rfl, .inl rfl, .inl rfl, .inl rfl, .inl rfl, .inl rfl, .inl rfl, .inl rfl, .inl rfl, .inl rfl, .inl rfl, .inl rfl, .inl rfl, .inl rfl, .inl rfl, .inl rfl, .inl rfl, .inl rfl, .inl rfl, .inl rfl, .inl rfl, .inl rfl, .inl rfl, .inl rfl, .inl rfl, .inl rfl, .inl rfl, .inl rfl, .inl rfl, .inl rfl, .inl rfl, .inl rfl, .inl rfl, .inl rfl, .inl rfl, .inl rfl, .inl rfl, .inl rfl, .inl rfl, .inl rfl, .inl rfl, .inl rfl, .inl rfl, .inl rfl, .inl rfl, .inl rfl, .inl rfl, .inl rfl, .inl rfl, .inl rfl, .inl rfl, .inl rfl, .inl rfl, .inl rfl, .inl rfl, trivial⟩ (by decide) (fun _ h => absurd h (by omega)) ⟨pobj_ren hI.val rfl, trivial⟩
                        exact congrArg some (int_succ (by omega)).symm
  · skip
    have hge : ¬ i < (lrows l).length := by simpa using hc10
    refine vc_exit ?_
    refine x_then ?_
    refine x_then ?_
    refine x_same ?_
    refine n_then ?_
    refine vc_seq ?_
    refine w_region ?_
    refine w_opN (env' := _) rfl rfl rfl (fun _ h => h) (nv_t12 rfl ?_)
    refine w_opN (env' := _) rfl rfl rfl (fun _ h => h) (nv_t12 rfl ?_)
    refine w_opN (env' := _) rfl rfl rfl (fun _ h => h) (nv_t12 rfl ?_)
    refine w_end rfl ?_
    refine vc_ret ?_
    refine r_fn rfl ?_
    -- return 8
    show retv _ _ = some (pieces (lrows l))
    rw [pieces, scan_end hI (by omega)]
    exact ret_tup2 (ret_pval hI.val rfl) rfl
end Go.Vi
