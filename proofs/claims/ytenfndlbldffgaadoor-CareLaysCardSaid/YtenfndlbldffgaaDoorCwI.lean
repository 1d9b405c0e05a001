/- CareLays: a walk. -/
import Derived.Test.YtenfndlbldffgaaDoorCwH
import Derived.Test.YtenfndlbldffgaaDoorCwFirst
set_option autoImplicit false
set_option linter.unusedVariables false
set_option linter.unusedSimpArgs false
set_option maxRecDepth 100000
namespace Go.Vi
open Go Go.Vi Go.Proofs
attribute [local irreducible] vops vopsD vc

theorem valid_nils {last : Int} : validB last [] = false := by simp [validB]
theorem t6 (G : Glob) (last0 last : Int) (pages l st : AV) (hL : IsL pages) (hv : pages.isVal = true) (hl : IsL l) (hS : IsL st) (hlen : (lrows pages).length < 9223372036854775808) (hll : (lrows l).length ≤ 1000) (hsl : (lrows st).length ≤ 1000) (hp : ∀ r ∈ lrows pages, PageOk r) (hpl : ∀ r ∈ lrows l, PieceOk r) (hps : ∀ r ∈ lrows st, ∃ k, r = [.int .i64 k]) :
    Vi.Fn Tryd.prog G 6 [.agg [.int .i64 last0, pages], l, st, .int .i64 last] (withR last0 (lrows pages) (lrows l) (lrows st) last) := by
  by_cases hval : validB last0 (lrows pages) = true
  · rcases hL with rfl | ⟨tg, rows, rfl⟩
    · rw [show lrows AV.nils = [] from rfl, valid_nils] at hval
      cases hval
    · cases hsc : scan none (lrows l) with
      | none =>
        have := t6a G last0 last _ l st (.inr ⟨tg, rows, rfl⟩) hv hl hS hlen hll hsl hp hpl hps hval hsc
        rw [withR, if_pos hval, hsc]
        exact this
      | some pgs =>
        by_cases hbad : badW last0 last pgs (lrows st) = true
        · have := t6c G last0 last _ l st (.inr ⟨tg, rows, rfl⟩) hv hl hS hlen hll hsl hp hpl hps hval pgs hsc hbad
          rw [withR, if_pos hval, hsc]
          simp only [hbad, if_true]
          exact this
        · have hbad := Bool.eq_false_iff.2 hbad
          have := t6d G last0 last l st tg rows hv hl hS hlen hll hsl hp hpl hps hval pgs hsc hbad
          rw [withR, if_pos hval, hsc]
          simp only [hbad, Bool.false_eq_true, if_false]
          exact this
  · have := t6v G last0 last pages l st hL hv hl hS hlen hll hsl hp hpl hps (Bool.eq_false_iff.2 hval)
    rw [withR, if_neg hval]
    exact this
theorem t7 (G : Glob) (last0 last : Int) (pages l st : AV) (hL : IsL pages) (hl : IsL l) (hS : IsL st) (hlen : (lrows pages).length < 9223372036854775808) (hll : (lrows l).length ≤ 1000) (hsl : (lrows st).length ≤ 1000) (hp : ∀ r ∈ lrows pages, PageOk r) (hpl : ∀ r ∈ lrows l, PieceOk r) (hps : ∀ r ∈ lrows st, ∃ k, r = [.int .i64 k]) :
    Vi.Fn Tryd.prog G 7 [.agg [.int .i64 last0, pages], l, st, .int .i64 last] (withR last0 (lrows pages) (lrows l) (lrows st) last) := by
  by_cases hval : validB last0 (lrows pages) = true
  · rcases hL with rfl | ⟨tg, rows, rfl⟩
    · rw [show lrows AV.nils = [] from rfl, valid_nils] at hval
      cases hval
    · exact t7m G last0 last l st tg rows hl hS hlen hll hsl hp hpl hps hval
  · have := t7v G last0 last pages l st hL hlen hp (Bool.eq_false_iff.2 hval)
    rw [withR, if_neg hval]
    exact this
theorem shRows_ok {sh : List Sheet} (h : ShOk sh) : ∀ r ∈ shRows sh, PageOk r := by
  intro r hr
  obtain ⟨s, hs, rfl⟩ := List.mem_map.1 hr
  obtain ⟨h1, h2⟩ := h s hs
  exact ⟨_, _, rfl, .inr ⟨_, _, rfl⟩, by show s.1.length < _; omega, h2⟩
theorem withOk_length {rows l pgs st : List (List AV)} : (withOk rows l pgs st).length = rows.length := by
  have h1 : ∀ (l : List (List AV)) (sh : List Sheet), (l.foldl layP sh).length = sh.length := by
    intro l
    induction l with
    | nil => intro sh; rfl
    | cons r l ih => intro sh; rw [List.foldl_cons, ih]; exact updS_length
  have h2 : ∀ (l : List (List AV × List AV)) (sh : List Sheet), (l.foldl stampP sh).length = sh.length := by
    intro l
    induction l with
    | nil => intro sh; rfl
    | cons r l ih => intro sh; rw [List.foldl_cons, ih]; exact updS_length
  rw [withOk, h2, h1]
  simp [shOf]
theorem withR_form (last0 last : Int) (rows l st : List (List AV)) (hp : ∀ r ∈ rows, PageOk r) (hpl : ∀ r ∈ l, PieceOk r) : ∃ la pg e, withR last0 rows l st last = .tup [.agg [.int .i64 la, pg], .int .i64 e] ∧ IsL pg ∧ (lrows pg).length < 9223372036854775808 ∧ ∀ r ∈ lrows pg, PageOk r := by
  have herr : ∀ e, ∃ la pg e', errR e = .tup [.agg [.int .i64 la, pg], .int .i64 e'] ∧ IsL pg ∧ (lrows pg).length < 9223372036854775808 ∧ ∀ r ∈ lrows pg, PageOk r := fun e => ⟨0, .nils, e, rfl, .inl rfl, by simp [lrows], fun r hr => by simp [lrows] at hr⟩
  unfold withR
  split
  · rename_i hval
    obtain ⟨h120, hne, hPI, hSh⟩ := valid_pages hval hp
    split
    · exact herr 2
    · rename_i pgs hsc
      split
      · exact herr 2
      · have hok := (scan_ok _ _ _ hsc).1
        refine ⟨last, _, 0, rfl, .inr ⟨_, _, rfl⟩, ?_, shRows_ok (ShOk.stampAll _ _ (ShOk.layAll _ _ hSh fun r hr => ⟨hok r hr, piece_val (hpl r hr)⟩))⟩
        show (shRows _).length < _
        simp only [shRows, List.length_map]
        rw [withOk_length]
        omega
  · exact herr 270

theorem nv_t3 {P : Program} {G : Glob} {md : Oper → Md} {ops : Array Oper} {r : List Oper} {env : List AV} {x0 x1 x2 x3 x4 x5 x6 x7 x8 x9 x10 x11 x12 x13 x14 x15 x16 x17 x18 x19 x20 x21 x22 x23 x24 x25 x26 x27 x28 x29 x30 x31 x32 x33 x34 x35 x36 x37 x38 x39 x40 x41 x42 x43 x44 x45 x46 x47 x48 x49 x50 x51 x52 x53 x54 x55 x56 x57 x58 x59 x60 x61 x62 x63 x64 x65 x66 x67 x68 x69 x70 x71 : AV} {H : Hp} {K : List AV → Hp → Prop} (he : env = (x0 :: x1 :: x2 :: x3 :: x4 :: x5 :: x6 :: x7 :: x8 :: x9 :: x10 :: x11 :: x12 :: x13 :: x14 :: x15 :: x16 :: x17 :: x18 :: x19 :: x20 :: x21 :: x22 :: x23 :: x24 :: x25 :: x26 :: x27 :: x28 :: x29 :: x30 :: x31 :: x32 :: x33 :: x34 :: x35 :: x36 :: x37 :: x38 :: x39 :: x40 :: x41 :: x42 :: x43 :: x44 :: x45 :: x46 :: x47 :: x48 :: x49 :: x50 :: x51 :: x52 :: x53 :: x54 :: x55 :: x56 :: x57 :: x58 :: x59 :: x60 :: x61 :: x62 :: x63 :: x64 :: x65 :: x66 :: x67 :: x68 :: x69 :: x70 :: x71 :: [])) (h : vops P G md ops r (x0 :: x1 :: x2 :: x3 :: x4 :: x5 :: x6 :: x7 :: x8 :: x9 :: x10 :: x11 :: x12 :: x13 :: x14 :: x15 :: x16 :: x17 :: x18 :: x19 :: x20 :: x21 :: x22 :: x23 :: x24 :: x25 :: x26 :: x27 :: x28 :: x29 :: x30 :: x31 :: x32 :: x33 :: x34 :: x35 :: x36 :: x37 :: x38 :: x39 :: x40 :: x41 :: x42 :: x43 :: x44 :: x45 :: x46 :: x47 :: x48 :: x49 :: x50 :: x51 :: x52 :: x53 :: x54 :: x55 :: x56 :: x57 :: x58 :: x59 :: x60 :: x61 :: x62 :: x63 :: x64 :: x65 :: x66 :: x67 :: x68 :: x69 :: x70 :: x71 :: []) H K) : vops P G md ops r env H K := by rw [he]; exact h
theorem nd_t3 {P : Program} {G : Glob} {md : Oper → Md} {ops : Array Oper} {r : List Oper} {env : List AV} {x0 x1 x2 x3 x4 x5 x6 x7 x8 x9 x10 x11 x12 x13 x14 x15 x16 x17 x18 x19 x20 x21 x22 x23 x24 x25 x26 x27 x28 x29 x30 x31 x32 x33 x34 x35 x36 x37 x38 x39 x40 x41 x42 x43 x44 x45 x46 x47 x48 x49 x50 x51 x52 x53 x54 x55 x56 x57 x58 x59 x60 x61 x62 x63 x64 x65 x66 x67 x68 x69 x70 x71 : AV} {H : Hp} {K : List AV → Hp → Prop} (he : env = (x0 :: x1 :: x2 :: x3 :: x4 :: x5 :: x6 :: x7 :: x8 :: x9 :: x10 :: x11 :: x12 :: x13 :: x14 :: x15 :: x16 :: x17 :: x18 :: x19 :: x20 :: x21 :: x22 :: x23 :: x24 :: x25 :: x26 :: x27 :: x28 :: x29 :: x30 :: x31 :: x32 :: x33 :: x34 :: x35 :: x36 :: x37 :: x38 :: x39 :: x40 :: x41 :: x42 :: x43 :: x44 :: x45 :: x46 :: x47 :: x48 :: x49 :: x50 :: x51 :: x52 :: x53 :: x54 :: x55 :: x56 :: x57 :: x58 :: x59 :: x60 :: x61 :: x62 :: x63 :: x64 :: x65 :: x66 :: x67 :: x68 :: x69 :: x70 :: x71 :: [])) (h : vopsD P G md ops r (x0 :: x1 :: x2 :: x3 :: x4 :: x5 :: x6 :: x7 :: x8 :: x9 :: x10 :: x11 :: x12 :: x13 :: x14 :: x15 :: x16 :: x17 :: x18 :: x19 :: x20 :: x21 :: x22 :: x23 :: x24 :: x25 :: x26 :: x27 :: x28 :: x29 :: x30 :: x31 :: x32 :: x33 :: x34 :: x35 :: x36 :: x37 :: x38 :: x39 :: x40 :: x41 :: x42 :: x43 :: x44 :: x45 :: x46 :: x47 :: x48 :: x49 :: x50 :: x51 :: x52 :: x53 :: x54 :: x55 :: x56 :: x57 :: x58 :: x59 :: x60 :: x61 :: x62 :: x63 :: x64 :: x65 :: x66 :: x67 :: x68 :: x69 :: x70 :: x71 :: []) H K) : vopsD P G md ops r env H K := by rw [he]; exact h
theorem t3 (last0 last : Int) (pages l st : AV) (hL : IsL pages) (hv : pages.isVal = true) (hl : IsL l) (hlv : l.isVal = true) (hS : IsL st) (hlen : (lrows pages).length < 9223372036854775808) (hll : (lrows l).length < 9223372036854775808) (hsl : (lrows st).length < 9223372036854775808) (hp : ∀ r ∈ lrows pages, PageOk r) (hpl : ∀ r ∈ lrows l, PieceOk r) (hps : ∀ r ∈ lrows st, ∃ k, r = [.int .i64 k]) : XS Tryd.prog (fun _ => none) 3 [.agg [.int .i64 last0, pages], l, .agg [st, .int .i64 last]] [] (fun r _ => r = .bool true) := by
  obtain ⟨la, pg2, e, hR, hL2, hlen2, hp2⟩ := withR_form last0 last (lrows pages) (lrows l) (lrows st) hp hpl
  refine xs_body (fun _ => .iso) Tryd.func3 rfl ?_
  refine vc_norm (env' := (_ :: _ :: _ :: _ :: _ :: _ :: _ :: _ :: _ :: _ :: _ :: _ :: _ :: _ :: _ :: _ :: _ :: _ :: _ :: _ :: _ :: _ :: _ :: _ :: _ :: _ :: _ :: _ :: _ :: _ :: _ :: _ :: _ :: _ :: _ :: _ :: _ :: _ :: _ :: _ :: _ :: _ :: _ :: _ :: _ :: _ :: _ :: _ :: _ :: _ :: _ :: _ :: _ :: _ :: _ :: _ :: _ :: _ :: _ :: _ :: _ :: _ :: _ :: _ :: _ :: _ :: _ :: _ :: _ :: _ :: _ :: _ :: [])) (H' := []) rfl rfl ?_
  refine vc_seq ?_
  refine w_region ?_
  refine w_opH (v := .ptr 0 0 0) (env' := _) (H2 := [.arr 24 2 [[_, _]]]) rfl rfl rfl rfl (fun _ h => h) (nv_t3 rfl ?_)
  refine w_opH (v := .ptr 1 0 0) (env' := _) (H2 := [.arr 24 2 [[_, _]], .arr 28 2 [[_, _]]]) rfl rfl rfl rfl (fun _ h => h) (nv_t3 rfl ?_)
  refine w_opN (env' := _) rfl rfl rfl (fun _ h => h) (nv_t3 rfl ?_)
  refine w_end rfl ?_
  refine vc_seq ?_
  refine w_regionD (by kernel_rfl) ?_
  refine d_opH (v := .ptr 1 0 0) (env' := _) (H2 := [.arr 24 2 [[_, _]], .arr 28 2 [[_, _]]]) rfl rfl (.inr rfl) rfl rfl (fun _ h => h) (nd_t3 rfl ?_)
  refine d_opH (env' := _) (H2 := [.arr 24 2 [[_, _]], .arr 28 2 [[_, _]]]) rfl rfl (.inr rfl) rfl rfl (fun _ h => h) (nd_t3 rfl ?_)
  refine d_opH (v := .ptr 1 0 1) (env' := _) (H2 := [.arr 24 2 [[_, _]], .arr 28 2 [[_, _]]]) rfl rfl (.inr rfl) rfl rfl (fun _ h => h) (nd_t3 rfl ?_)
  refine d_opH (env' := _) (H2 := [.arr 24 2 [[_, _]], .arr 28 2 [[_, _]]]) rfl rfl (.inr rfl) rfl rfl (fun _ h => h) (nd_t3 rfl ?_)
  refine d_opH (env' := _) (H2 := [.arr 24 2 [[_, _]], .arr 28 2 [[_, _]]]) rfl rfl (.inr rfl) rfl rfl (fun _ h => h) (nd_t3 rfl ?_)
  refine d_opH (env' := _) (H2 := [.arr 24 2 [[_, _]], .arr 28 2 [[_, _]]]) rfl rfl (.inr rfl) rfl rfl (fun _ h => h) (nd_t3 rfl ?_)
  refine d_end rfl ?_
  refine vc_seq ?_
  refine vc_seq ?_
  refine w_region ?_
  refine w_opN (env' := _) rfl rfl rfl (fun _ h => h) (nv_t3 rfl ?_)
  refine w_end rfl ?_
  refine vc_block ?_
  refine vc_loopU (α := { i : Nat // i ≤ (lrows l).length }) (fun i => (none :: none :: none :: none :: none :: none :: (some .undef) :: none :: none :: (some (.int .i64 (i.1 : Nat))) :: none :: none :: none :: none :: none :: none :: none :: none :: (some .undef) :: (some .undef) :: (some .undef) :: (some .undef) :: (some .undef) :: (some .undef) :: (some .undef) :: (some .undef) :: (some .undef) :: (some .undef) :: (some .undef) :: (some .undef) :: (some .undef) :: (some .undef) :: none :: none :: none :: none :: none :: none :: none :: none :: none :: none :: none :: none :: none :: none :: none :: none :: none :: none :: none :: none :: none :: none :: none :: none :: none :: none :: none :: none :: none :: none :: none :: none :: none :: none :: none :: none :: none :: none :: none :: none :: [])) (fun i => (lrows l).length - i.1) ⟨0, by omega⟩ ⟨.inl rfl, .inl rfl, .inl rfl, .inl rfl, .inl rfl, .inl rfl, .inr rfl, .inl rfl, .inl rfl, .inl rfl, .inl rfl, .inl rfl, .inl rfl, .inl rfl, .inl rfl, .inl rfl, .inl rfl, .inl rfl, .inr rfl, .inr rfl, .inr rfl, .inr rfl, .inr rfl, .inr rfl, .inr rfl, .inr rfl, .inr rfl, .inr rfl, .inr rfl, .inr rfl, .inr rfl, .inr rfl, .inl rfl, .inl rfl, .inl rfl, .inl rfl, .inl rfl, .inl rfl, .inl rfl, .inl rfl, .inl rfl, .inl rfl, .inl rfl, .inl rfl, .inl rfl, .inl rfl, .inl rfl, .inl rfl, .inl rfl, .inl rfl, .inl rfl, .inl rfl, .inl rfl, .inl rfl, .inl rfl, .inl rfl, .inl rfl, .inl rfl, .inl rfl, .inl rfl, .inl rfl, .inl rfl, .inl rfl, .inl rfl, .inl rfl, .inl rfl, .inl rfl, .inl rfl, .inl rfl, .inl rfl, .inl rfl, .inl rfl, trivial⟩ (fun _ => ⟨Nat.zero_le _, ⟨(by first | exact trivial | exact IsL.belowV (by assumption) | ((repeat' (first | exact trivial | exact IsL.below (by assumption) | refine ⟨?_, ?_⟩)); done) | (simp [valB, leafB, cellsB, IsL.below, *]; done) | (simp [valB, leafB, cellsB, IsL.below, *]; omega)), (by first | exact trivial | exact IsL.belowV (by assumption) | ((repeat' (first | exact trivial | exact IsL.below (by assumption) | refine ⟨?_, ?_⟩)); done) | (simp [valB, leafB, cellsB, IsL.below, *]; done) | (simp [valB, leafB, cellsB, IsL.below, *]; omega)), (by first | exact trivial | exact IsL.belowV (by assumption) | ((repeat' (first | exact trivial | exact IsL.below (by assumption) | refine ⟨?_, ?_⟩)); done) | (simp [valB, leafB, cellsB, IsL.below, *]; done) | (simp [valB, leafB, cellsB, IsL.below, *]; omega)), (by first | exact trivial | exact IsL.belowV (by assumption) | ((repeat' (first | exact trivial | exact IsL.below (by assumption) | refine ⟨?_, ?_⟩)); done) | (simp [valB, leafB, cellsB, IsL.below, *]; done) | (simp [valB, leafB, cellsB, IsL.below, *]; omega)), trivial, (by first | exact trivial | exact IsL.belowV (by assumption) | ((repeat' (first | exact trivial | exact IsL.below (by assumption) | refine ⟨?_, ?_⟩)); done) | (simp [valB, leafB, cellsB, IsL.below, *]; done) | (simp [valB, leafB, cellsB, IsL.below, *]; omega)), trivial, (by first | exact trivial | exact IsL.belowV (by assumption) | ((repeat' (first | exact trivial | exact IsL.below (by assumption) | refine ⟨?_, ?_⟩)); done) | (simp [valB, leafB, cellsB, IsL.below, *]; done) | (simp [valB, leafB, cellsB, IsL.below, *]; omega)), (by first | exact trivial | exact IsL.belowV (by assumption) | ((repeat' (first | exact trivial | exact IsL.below (by assumption) | refine ⟨?_, ?_⟩)); done) | (simp [valB, leafB, cellsB, IsL.below, *]; done) | (simp [valB, leafB, cellsB, IsL.below, *]; omega)), (by first | exact trivial | exact IsL.belowV (by assumption) | ((repeat' (first | exact trivial | exact IsL.below (by assumption) | refine ⟨?_, ?_⟩)); done) | (simp [valB, leafB, cellsB, IsL.below, *]; done) | (simp [valB, leafB, cellsB, IsL.below, *]; omega)), trivial, trivial, trivial, trivial, (by first | exact trivial | exact IsL.belowV (by assumption) | ((repeat' (first | exact trivial | exact IsL.below (by assumption) | refine ⟨?_, ?_⟩)); done) | (simp [valB, leafB, cellsB, IsL.below, *]; done) | (simp [valB, leafB, cellsB, IsL.below, *]; omega)), (by first | exact trivial | exact IsL.belowV (by assumption) | ((repeat' (first | exact trivial | exact IsL.below (by assumption) | refine ⟨?_, ?_⟩)); done) | (simp [valB, leafB, cellsB, IsL.below, *]; done) | (simp [valB, leafB, cellsB, IsL.below, *]; omega)), (by first | exact trivial | exact IsL.belowV (by assumption) | ((repeat' (first | exact trivial | exact IsL.below (by assumption) | refine ⟨?_, ?_⟩)); done) | (simp [valB, leafB, cellsB, IsL.below, *]; done) | (simp [valB, leafB, cellsB, IsL.below, *]; omega)), (by first | exact trivial | exact IsL.belowV (by assumption) | ((repeat' (first | exact trivial | exact IsL.below (by assumption) | refine ⟨?_, ?_⟩)); done) | (simp [valB, leafB, cellsB, IsL.below, *]; done) | (simp [valB, leafB, cellsB, IsL.below, *]; omega)), trivial, trivial, trivial, trivial, trivial, trivial, trivial, trivial, trivial, trivial, trivial, trivial, trivial, trivial, trivial, trivial, trivial, trivial, trivial, trivial, trivial, trivial, trivial, trivial, trivial, trivial, trivial, trivial, trivial, trivial, trivial, trivial, trivial, trivial, trivial, trivial, trivial, trivial, trivial, trivial, trivial, trivial, trivial, trivial, trivial, trivial, trivial, trivial, trivial, trivial, trivial, trivial, trivial, trivial, trivial⟩, (by repeat' first | exact trivial | exact IsL.below (by assumption) | refine ⟨?_, ?_⟩ | (simp [leafB]; done))⟩) ?_
  rintro ⟨i, hi⟩ Y0 hY0
  refine vc_norm (env' := (_ :: _ :: _ :: _ :: _ :: _ :: _ :: _ :: _ :: _ :: _ :: _ :: _ :: _ :: _ :: _ :: _ :: _ :: _ :: _ :: _ :: _ :: _ :: _ :: _ :: _ :: _ :: _ :: _ :: _ :: _ :: _ :: _ :: _ :: _ :: _ :: _ :: _ :: _ :: _ :: _ :: _ :: _ :: _ :: _ :: _ :: _ :: _ :: _ :: _ :: _ :: _ :: _ :: _ :: _ :: _ :: _ :: _ :: _ :: _ :: _ :: _ :: _ :: _ :: _ :: _ :: _ :: _ :: _ :: _ :: _ :: _ :: [])) (H' := [.arr 24 2 [[_, _]], .arr 28 2 [[_, _]]]) rfl rfl ?_
  refine vc_seq ?_
  refine vc_seq ?_
  refine w_region ?_
  refine w_opN (env' := _) rfl rfl rfl (fun _ h => h) (nv_t3 rfl ?_)
  refine w_opN (env' := _) rfl rfl rfl (fun _ h => h) (nv_t3 rfl ?_)
  first | refine w_opN (env' := _) rfl rfl rfl (fun _ h => h) (nv_t3 rfl ?_) | refine x_len (env' := _) rfl rfl (by assumption) Tryd.underlying25 rfl (nv_t3 rfl ?_)
  refine w_opN (env' := _) rfl rfl rfl (fun _ h => h) (nv_t3 rfl ?_)
  refine w_end rfl ?_
  refine vc_cond rfl (fun hc21 => ?_) (fun hc21 => ?_)
  · skip
    have hlt : i < (lrows l).length := by simpa using hc21
    have hri : (lrows l)[i]? = some (lrows l)[i] := List.getElem?_eq_getElem hlt
    obtain ⟨pg, a, b, hx, hLb, hb1, hb2⟩ := hpl _ (List.getElem_mem hlt)
    rw [hx] at hri
    refine vc_skip ?_
    refine n_then ?_
    refine vc_seq ?_
    refine vc_block ?_
    refine vc_seq ?_
    refine w_region ?_
    refine w_opN (env' := _) rfl rfl rfl (fun _ h => h) (nv_t3 rfl ?_)
    refine w_opN (env' := _) rfl rfl rfl (fun _ h => h) (nv_t3 rfl ?_)
    first | refine w_opN (v := .iptr _ [_, _, _]) (env' := _) rfl rfl rfl (fun _ h => h) (nv_t3 rfl ?_) | (refine x_index rfl rfl (by assumption) rfl el25 (by omega) (by assumption) rfl (fun bo => ?_); refine nv_t3 rfl ?_)
    refine w_opN (v := .iptr _ [_]) (env' := _) rfl rfl rfl (fun _ h => h) (nv_t3 rfl ?_)
    refine w_opN (env' := _) rfl rfl rfl (fun _ h => h) (nv_t3 rfl ?_)
    first | refine w_opN (env' := _) rfl rfl rfl (fun _ h => h) (nv_t3 rfl ?_) | refine x_len (env' := _) rfl rfl (by assumption) Tryd.underlying29 rfl (nv_t3 rfl ?_)
    refine w_opN (env' := _) rfl rfl rfl (fun _ h => h) (nv_t3 rfl ?_)
    refine w_end rfl ?_
    refine vc_cond rfl (fun hc30 => ?_) (fun hc30 => ?_)
    · skip
      refine vc_seq ?_
      refine w_region ?_
      refine w_callI (env' := _) rfl rfl rfl (by kernel_rfl) rfl (by repeat' first | exact mapL_nil | exact IsL.lend (by assumption) | exact IsL.lend0 (by assumption) | refine mapL_cons ?_ ?_ | refine mapL_app ?_ ?_ | refine lend_agg ?_ | refine lend_cloG ?_ | exact lend0_ptr rfl rfl (by simp [isVal_int, isVal_bool, isVal_str, isVal_nils, isVal_loose, *]) | exact lend_ptr rfl rfl (by simp [isVal_int, isVal_bool, isVal_str, isVal_nils, isVal_loose, *]) | rfl) (first_fn) rfl (nv_t3 rfl ?_)
      refine w_opN (env' := _) rfl rfl rfl (fun _ h => h) (nv_t3 rfl ?_)
      refine w_end rfl ?_
      refine vc_ret ?_
      refine r_block ?_
      refine r_then ?_
      refine r_then ?_
      refine r_block ?_
      refine r_then ?_
      refine r_fn rfl ?_
      -- return 0
      rfl
    · skip
      refine vc_skip ?_
      refine n_block ?_
      refine n_then ?_
      refine w_region ?_
      refine w_opN (env' := _) rfl rfl rfl (fun _ h => h) (nv_t3 rfl ?_)
      refine w_opN (env' := _) rfl rfl rfl (fun _ h => h) (nv_t3 rfl ?_)
      refine w_opN (env' := _) rfl rfl rfl (fun _ h => h) (nv_t3 rfl ?_)
      refine w_end rfl ?_
      refine hY0 ⟨i + 1, hlt⟩ (by simp only; omega) _ _ _ ⟨.inl rfl, .inl rfl, .inl rfl, .inl rfl, .inl rfl, .inl rfl, .inr rfl, .inl rfl, .inl rfl, .inl ?_, .inl rfl, .inl rfl, .inl rfl, .inl rfl, .inl rfl, .inl rfl, .inl rfl, .inl rfl, .inr rfl, .inr rfl, .inr rfl, .inr rfl, .inr rfl, .inr rfl, .inr rfl, .inr rfl, .inr rfl, .inr rfl, .inr rfl, .inr rfl, .inr rfl, .inr rfl, .inl rfl, .inl rfl, .inl rfl, .inl rfl, .inl rfl, .inl rfl, .inl rfl, .inl rfl, .inl rfl, .inl rfl, .inl rfl, .inl rfl, .inl rfl, .inl rfl, .inl rfl, .inl rfl, .inl rfl, .inl rfl, .inl rfl, .inl rfl, .inl rfl, .inl rfl, .inl rfl, .inl rfl, .inl rfl, .inl rfl, .inl rfl, .inl rfl, .inl rfl, .inl rfl, .inl rfl, .inl rfl, .inl rfl, .inl rfl, .inl rfl, .inl rfl, .inl rfl, .inl rfl, .inl rfl, .inl rfl, trivial⟩ rfl
      exact (int_succ (by omega)).symm
  · skip
    refine vc_exit ?_
    refine x_then ?_
    refine x_then ?_
    refine x_same ?_
    refine n_then ?_
    refine vc_seq ?_
    refine vc_seq ?_
    refine w_region ?_
    refine w_opN (v := .agg [_, _]) (env' := _) rfl rfl rfl (fun _ h => h) (nv_t3 rfl ?_)
    refine w_callI (env' := _) rfl rfl rfl (by kernel_rfl) rfl (by repeat' first | exact mapL_nil | exact IsL.lend (by assumption) | exact IsL.lend0 (by assumption) | refine mapL_cons ?_ ?_ | refine mapL_app ?_ ?_ | refine lend_agg ?_ | refine lend_cloG ?_ | exact lend0_ptr rfl rfl (by simp [isVal_int, isVal_bool, isVal_str, isVal_nils, isVal_loose, *]) | exact lend_ptr rfl rfl (by simp [isVal_int, isVal_bool, isVal_str, isVal_nils, isVal_loose, *]) | rfl) (t5 _ last0 pages hL hlen hp) rfl (nv_t3 rfl ?_)
    refine w_opN (env' := _) rfl rfl rfl (fun _ h => h) (nv_t3 rfl ?_)
    refine w_split 34 rfl (fun hg34 => ?_) (fun hg34 => ?_)
    · skip
      refine w_norm (env' := (_ :: _ :: _ :: _ :: _ :: _ :: _ :: _ :: _ :: _ :: _ :: _ :: _ :: _ :: _ :: _ :: _ :: _ :: _ :: _ :: _ :: _ :: _ :: _ :: _ :: _ :: _ :: _ :: _ :: _ :: _ :: _ :: _ :: _ :: _ :: _ :: _ :: _ :: _ :: _ :: _ :: _ :: _ :: _ :: _ :: _ :: _ :: _ :: _ :: _ :: _ :: _ :: _ :: _ :: _ :: _ :: _ :: _ :: _ :: _ :: _ :: _ :: _ :: _ :: _ :: _ :: _ :: _ :: _ :: _ :: _ :: _ :: [])) (H' := [.arr 24 2 [[_, _]], .arr 28 2 [[_, _]]]) rfl rfl ?_
      refine w_skipN (env' := _) (wanted_f 34 (by kernel_rfl) rfl) rfl (nv_t3 rfl ?_)
      refine w_skipN (env' := _) (wanted_f 34 (by kernel_rfl) rfl) rfl (nv_t3 rfl ?_)
      refine w_skipN (env' := _) (wanted_f 34 (by kernel_rfl) rfl) rfl (nv_t3 rfl ?_)
      refine w_opN (env' := _) rfl rfl rfl (fun _ h => h) (nv_t3 rfl ?_)
      refine w_opN (env' := _) rfl rfl rfl (fun _ h => h) (nv_t3 rfl ?_)
      refine w_skipN (env' := _) (wanted_f 39 (by kernel_rfl) rfl) rfl (nv_t3 rfl ?_)
      refine w_skipN (env' := _) (wanted_f 39 (by kernel_rfl) rfl) rfl (nv_t3 rfl ?_)
      refine w_skipN (env' := _) (wanted_f 39 (by kernel_rfl) rfl) rfl (nv_t3 rfl ?_)
      refine w_opN (env' := _) rfl rfl rfl (fun _ h => h) (nv_t3 rfl ?_)
      refine w_end rfl ?_
      refine vc_true rfl ?_
      refine vc_seq ?_
      refine w_region ?_
      refine w_callI (env' := _) rfl rfl rfl (by kernel_rfl) rfl (by repeat' first | exact mapL_nil | exact IsL.lend (by assumption) | exact IsL.lend0 (by assumption) | refine mapL_cons ?_ ?_ | refine mapL_app ?_ ?_ | refine lend_agg ?_ | refine lend_cloG ?_ | exact lend0_ptr rfl rfl (by simp [isVal_int, isVal_bool, isVal_str, isVal_nils, isVal_loose, *]) | exact lend_ptr rfl rfl (by simp [isVal_int, isVal_bool, isVal_str, isVal_nils, isVal_loose, *]) | rfl) (first_fn) rfl (nv_t3 rfl ?_)
      refine w_opN (env' := _) rfl rfl rfl (fun _ h => h) (nv_t3 rfl ?_)
      refine w_end rfl ?_
      refine vc_ret ?_
      refine r_then ?_
      refine r_fn rfl ?_
      -- return 1
      rfl
    · skip
      refine w_norm (env' := (_ :: _ :: _ :: _ :: _ :: _ :: _ :: _ :: _ :: _ :: _ :: _ :: _ :: _ :: _ :: _ :: _ :: _ :: _ :: _ :: _ :: _ :: _ :: _ :: _ :: _ :: _ :: _ :: _ :: _ :: _ :: _ :: _ :: _ :: _ :: _ :: _ :: _ :: _ :: _ :: _ :: _ :: _ :: _ :: _ :: _ :: _ :: _ :: _ :: _ :: _ :: _ :: _ :: _ :: _ :: _ :: _ :: _ :: _ :: _ :: _ :: _ :: _ :: _ :: _ :: _ :: _ :: _ :: _ :: _ :: _ :: _ :: [])) (H' := [.arr 24 2 [[_, _]], .arr 28 2 [[_, _]]]) rfl rfl ?_
      refine w_opN (env' := _) (wanted_t 34 (by kernel_rfl) rfl) rfl rfl (fun _ h => h) (nv_t3 rfl ?_)
      first | refine w_opN (env' := _) (wanted_t 34 (by kernel_rfl) rfl) rfl rfl (fun _ h => h) (nv_t3 rfl ?_) | refine x_len (env' := _) (wanted_t 34 (by kernel_rfl) rfl) rfl (by assumption) Tryd.underlying25 rfl (nv_t3 rfl ?_)
      refine w_opN (env' := _) (wanted_t 34 (by kernel_rfl) rfl) rfl rfl (fun _ h => h) (nv_t3 rfl ?_)
      refine w_opN (env' := _) rfl rfl rfl (fun _ h => h) (nv_t3 rfl ?_)
      refine w_opN (env' := _) rfl rfl rfl (fun _ h => h) (nv_t3 rfl ?_)
      refine w_split 39 rfl (fun hg39 => ?_) (fun hg39 => ?_)
      · skip
        refine w_norm (env' := (_ :: _ :: _ :: _ :: _ :: _ :: _ :: _ :: _ :: _ :: _ :: _ :: _ :: _ :: _ :: _ :: _ :: _ :: _ :: _ :: _ :: _ :: _ :: _ :: _ :: _ :: _ :: _ :: _ :: _ :: _ :: _ :: _ :: _ :: _ :: _ :: _ :: _ :: _ :: _ :: _ :: _ :: _ :: _ :: _ :: _ :: _ :: _ :: _ :: _ :: _ :: _ :: _ :: _ :: _ :: _ :: _ :: _ :: _ :: _ :: _ :: _ :: _ :: _ :: _ :: _ :: _ :: _ :: _ :: _ :: _ :: _ :: [])) (H' := [.arr 24 2 [[_, _]], .arr 28 2 [[_, _]]]) rfl rfl ?_
        refine w_skipN (env' := _) (wanted_f 39 (by kernel_rfl) rfl) rfl (nv_t3 rfl ?_)
        refine w_skipN (env' := _) (wanted_f 39 (by kernel_rfl) rfl) rfl (nv_t3 rfl ?_)
        refine w_skipN (env' := _) (wanted_f 39 (by kernel_rfl) rfl) rfl (nv_t3 rfl ?_)
        refine w_opN (env' := _) rfl rfl rfl (fun _ h => h) (nv_t3 rfl ?_)
        refine w_end rfl ?_
        refine vc_true rfl ?_
        refine vc_seq ?_
        refine w_region ?_
        refine w_callI (env' := _) rfl rfl rfl (by kernel_rfl) rfl (by repeat' first | exact mapL_nil | exact IsL.lend (by assumption) | exact IsL.lend0 (by assumption) | refine mapL_cons ?_ ?_ | refine mapL_app ?_ ?_ | refine lend_agg ?_ | refine lend_cloG ?_ | exact lend0_ptr rfl rfl (by simp [isVal_int, isVal_bool, isVal_str, isVal_nils, isVal_loose, *]) | exact lend_ptr rfl rfl (by simp [isVal_int, isVal_bool, isVal_str, isVal_nils, isVal_loose, *]) | rfl) (first_fn) rfl (nv_t3 rfl ?_)
        refine w_opN (env' := _) rfl rfl rfl (fun _ h => h) (nv_t3 rfl ?_)
        refine w_end rfl ?_
        refine vc_ret ?_
        refine r_then ?_
        refine r_fn rfl ?_
        -- return 2
        rfl
      · skip
        refine w_norm (env' := (_ :: _ :: _ :: _ :: _ :: _ :: _ :: _ :: _ :: _ :: _ :: _ :: _ :: _ :: _ :: _ :: _ :: _ :: _ :: _ :: _ :: _ :: _ :: _ :: _ :: _ :: _ :: _ :: _ :: _ :: _ :: _ :: _ :: _ :: _ :: _ :: _ :: _ :: _ :: _ :: _ :: _ :: _ :: _ :: _ :: _ :: _ :: _ :: _ :: _ :: _ :: _ :: _ :: _ :: _ :: _ :: _ :: _ :: _ :: _ :: _ :: _ :: _ :: _ :: _ :: _ :: _ :: _ :: _ :: _ :: _ :: _ :: [])) (H' := [.arr 24 2 [[_, _]], .arr 28 2 [[_, _]]]) rfl rfl ?_
        refine w_opN (env' := _) (wanted_t 39 (by kernel_rfl) rfl) rfl rfl (fun _ h => h) (nv_t3 rfl ?_)
        first | refine w_opN (env' := _) (wanted_t 39 (by kernel_rfl) rfl) rfl rfl (fun _ h => h) (nv_t3 rfl ?_) | refine x_len (env' := _) (wanted_t 39 (by kernel_rfl) rfl) rfl (by assumption) Tryd.underlying26 rfl (nv_t3 rfl ?_)
        refine w_opN (env' := _) (wanted_t 39 (by kernel_rfl) rfl) rfl rfl (fun _ h => h) (nv_t3 rfl ?_)
        refine w_opN (env' := _) rfl rfl rfl (fun _ h => h) (nv_t3 rfl ?_)
        refine w_end rfl ?_
        refine vc_cond rfl (fun hc43 => ?_) (fun hc43 => ?_)
        · skip
          refine vc_seq ?_
          refine w_region ?_
          refine w_callI (env' := _) rfl rfl rfl (by kernel_rfl) rfl (by repeat' first | exact mapL_nil | exact IsL.lend (by assumption) | exact IsL.lend0 (by assumption) | refine mapL_cons ?_ ?_ | refine mapL_app ?_ ?_ | refine lend_agg ?_ | refine lend_cloG ?_ | exact lend0_ptr rfl rfl (by simp [isVal_int, isVal_bool, isVal_str, isVal_nils, isVal_loose, *]) | exact lend_ptr rfl rfl (by simp [isVal_int, isVal_bool, isVal_str, isVal_nils, isVal_loose, *]) | rfl) (first_fn) rfl (nv_t3 rfl ?_)
          refine w_opN (env' := _) rfl rfl rfl (fun _ h => h) (nv_t3 rfl ?_)
          refine w_end rfl ?_
          refine vc_ret ?_
          refine r_then ?_
          refine r_fn rfl ?_
          -- return 3
          rfl
        · skip
          have hl40 : (lrows l).length ≤ 1000 := by have := of_decide_eq_false hg39; omega
          have hs40 : (lrows st).length ≤ 1000 := by have := of_decide_eq_false hc43; omega
          have h6 := t6 (fun _ => none) last0 last pages l st hL hv hl hS hlen hl40 hs40 hp hpl hps
          have h7 := t7 (fun _ => none) last0 last pages l st hL hl hS hlen hl40 hs40 hp hpl hps
          rw [hR] at h6 h7
          refine vc_skip ?_
          refine n_then ?_
          refine vc_seq ?_
          refine w_region ?_
          refine w_opN (v := .agg [_, _]) (env' := _) rfl rfl rfl (fun _ h => h) (nv_t3 rfl ?_)
          refine w_opN (env' := _) rfl rfl rfl (fun _ h => h) (nv_t3 rfl ?_)
          refine w_opN (env' := _) rfl rfl rfl (fun _ h => h) (nv_t3 rfl ?_)
          refine w_opN (env' := _) rfl rfl rfl (fun _ h => h) (nv_t3 rfl ?_)
          refine w_callI (env' := _) rfl rfl rfl (by kernel_rfl) rfl (by repeat' first | exact mapL_nil | exact IsL.lend (by assumption) | exact IsL.lend0 (by assumption) | refine mapL_cons ?_ ?_ | refine mapL_app ?_ ?_ | refine lend_agg ?_ | refine lend_cloG ?_ | exact lend0_ptr rfl rfl (by simp [isVal_int, isVal_bool, isVal_str, isVal_nils, isVal_loose, *]) | exact lend_ptr rfl rfl (by simp [isVal_int, isVal_bool, isVal_str, isVal_nils, isVal_loose, *]) | rfl) (h6) rfl (nv_t3 rfl ?_)
          refine w_opN (env' := _) rfl rfl rfl (fun _ h => h) (nv_t3 rfl ?_)
          refine w_opN (env' := _) rfl rfl rfl (fun _ h => h) (nv_t3 rfl ?_)
          refine w_opN (env' := _) rfl rfl rfl (fun _ h => h) (nv_t3 rfl ?_)
          refine w_opH (v := .ptr 2 0 0) (env' := _) (H2 := [.arr 24 2 [[_, _]], .arr 28 2 [[_, _]], .arr 24 2 [[_, _]]]) rfl rfl rfl rfl (fun _ h => h) (nv_t3 rfl ?_)
          refine w_op0N (H2 := [.arr 24 2 [[_, _]], .arr 28 2 [[_, _]], .arr 24 2 [[_, _]]]) rfl rfl rfl (fun _ h => h) ?_
          refine w_opN (env' := _) rfl rfl rfl (fun _ h => h) (nv_t3 rfl ?_)
          refine w_end rfl ?_
          refine vc_seq ?_
          refine w_region ?_
          refine w_opN (v := .agg [_, _]) (env' := _) rfl rfl rfl (fun _ h => h) (nv_t3 rfl ?_)
          refine w_opN (env' := _) rfl rfl rfl (fun _ h => h) (nv_t3 rfl ?_)
          refine w_opN (env' := _) rfl rfl rfl (fun _ h => h) (nv_t3 rfl ?_)
          refine w_opN (env' := _) rfl rfl rfl (fun _ h => h) (nv_t3 rfl ?_)
          refine w_callI (env' := _) rfl rfl rfl (by kernel_rfl) rfl (by repeat' first | exact mapL_nil | exact IsL.lend (by assumption) | exact IsL.lend0 (by assumption) | refine mapL_cons ?_ ?_ | refine mapL_app ?_ ?_ | refine lend_agg ?_ | refine lend_cloG ?_ | exact lend0_ptr rfl rfl (by simp [isVal_int, isVal_bool, isVal_str, isVal_nils, isVal_loose, *]) | exact lend_ptr rfl rfl (by simp [isVal_int, isVal_bool, isVal_str, isVal_nils, isVal_loose, *]) | rfl) (h7) rfl (nv_t3 rfl ?_)
          refine w_opN (env' := _) rfl rfl rfl (fun _ h => h) (nv_t3 rfl ?_)
          refine w_opN (env' := _) rfl rfl rfl (fun _ h => h) (nv_t3 rfl ?_)
          refine w_opN (env' := _) rfl rfl rfl (fun _ h => h) (nv_t3 rfl ?_)
          refine w_opH (v := .ptr 3 0 0) (env' := _) (H2 := [.arr 24 2 [[_, _]], .arr 28 2 [[_, _]], .arr 24 2 [[_, _]], .arr 24 2 [[_, _]]]) rfl rfl rfl rfl (fun _ h => h) (nv_t3 rfl ?_)
          refine w_op0N (H2 := [.arr 24 2 [[_, _]], .arr 28 2 [[_, _]], .arr 24 2 [[_, _]], .arr 24 2 [[_, _]]]) rfl rfl rfl (fun _ h => h) ?_
          refine w_opN (env' := _) rfl rfl rfl (fun _ h => h) (nv_t3 rfl ?_)
          refine w_end rfl ?_
          refine vc_seq ?_
          refine w_region ?_
          refine w_opN (v := .agg [_, _]) (env' := _) rfl rfl rfl (fun _ h => h) (nv_t3 rfl ?_)
          refine w_opN (v := .agg [_, _]) (env' := _) rfl rfl rfl (fun _ h => h) (nv_t3 rfl ?_)
          refine w_callI (env' := _) rfl rfl rfl (by kernel_rfl) rfl (by repeat' first | exact mapL_nil | exact IsL.lend (by assumption) | exact IsL.lend0 (by assumption) | refine mapL_cons ?_ ?_ | refine mapL_app ?_ ?_ | refine lend_agg ?_ | refine lend_cloG ?_ | exact lend0_ptr rfl rfl (by simp [isVal_int, isVal_bool, isVal_str, isVal_nils, isVal_loose, *]) | exact lend_ptr rfl rfl (by simp [isVal_int, isVal_bool, isVal_str, isVal_nils, isVal_loose, *]) | rfl) (t8 _ la pg2 hL2 hlen2 hp2) rfl (nv_t3 rfl ?_)
          refine w_opN (env' := _) rfl rfl rfl (fun _ h => h) (nv_t3 rfl ?_)
          refine w_split 64 rfl (fun hg64 => ?_) (fun hg64 => ?_)
          · skip
            refine w_norm (env' := (_ :: _ :: _ :: _ :: _ :: _ :: _ :: _ :: _ :: _ :: _ :: _ :: _ :: _ :: _ :: _ :: _ :: _ :: _ :: _ :: _ :: _ :: _ :: _ :: _ :: _ :: _ :: _ :: _ :: _ :: _ :: _ :: _ :: _ :: _ :: _ :: _ :: _ :: _ :: _ :: _ :: _ :: _ :: _ :: _ :: _ :: _ :: _ :: _ :: _ :: _ :: _ :: _ :: _ :: _ :: _ :: _ :: _ :: _ :: _ :: _ :: _ :: _ :: _ :: _ :: _ :: _ :: _ :: _ :: _ :: _ :: _ :: [])) (H' := [.arr 24 2 [[_, _]], .arr 28 2 [[_, _]], .arr 24 2 [[_, _]], .arr 24 2 [[_, _]]]) rfl rfl ?_
            refine w_opN (env' := _) (wanted_t 64 (by kernel_rfl) rfl) rfl rfl (fun _ h => h) (nv_t3 rfl ?_)
            refine w_opN (env' := _) (wanted_t 64 (by kernel_rfl) rfl) rfl rfl (fun _ h => h) (nv_t3 rfl ?_)
            refine w_opN (env' := _) (wanted_t 64 (by kernel_rfl) rfl) rfl rfl (fun _ h => h) (nv_t3 rfl ?_)
            refine w_opN (env' := _) rfl rfl rfl (fun _ h => h) (nv_t3 rfl ?_)
            refine w_opN (env' := _) rfl rfl rfl (fun _ h => h) (nv_t3 rfl ?_)
            refine w_split 69 rfl (fun hg69 => ?_) (fun hg69 => ?_)
            · skip
              refine w_norm (env' := (_ :: _ :: _ :: _ :: _ :: _ :: _ :: _ :: _ :: _ :: _ :: _ :: _ :: _ :: _ :: _ :: _ :: _ :: _ :: _ :: _ :: _ :: _ :: _ :: _ :: _ :: _ :: _ :: _ :: _ :: _ :: _ :: _ :: _ :: _ :: _ :: _ :: _ :: _ :: _ :: _ :: _ :: _ :: _ :: _ :: _ :: _ :: _ :: _ :: _ :: _ :: _ :: _ :: _ :: _ :: _ :: _ :: _ :: _ :: _ :: _ :: _ :: _ :: _ :: _ :: _ :: _ :: _ :: _ :: _ :: _ :: _ :: [])) (H' := [.arr 24 2 [[_, _]], .arr 28 2 [[_, _]], .arr 24 2 [[_, _]], .arr 24 2 [[_, _]]]) rfl rfl ?_
              refine w_callI (env' := _) (wanted_t 69 (by kernel_rfl) rfl) rfl rfl (by kernel_rfl) rfl (by repeat' first | exact mapL_nil | exact IsL.lend (by assumption) | exact IsL.lend0 (by assumption) | refine mapL_cons ?_ ?_ | refine mapL_app ?_ ?_ | refine lend_agg ?_ | refine lend_cloG ?_ | exact lend0_ptr rfl rfl (by simp [isVal_int, isVal_bool, isVal_str, isVal_nils, isVal_loose, *]) | exact lend_ptr rfl rfl (by simp [isVal_int, isVal_bool, isVal_str, isVal_nils, isVal_loose, *]) | rfl) (first_fn) rfl (nv_t3 rfl ?_)
              refine w_opN (env' := _) rfl rfl rfl (fun _ h => h) (nv_t3 rfl ?_)
              refine w_opN (env' := _) rfl rfl rfl (fun _ h => h) (nv_t3 rfl ?_)
              refine w_end rfl ?_
              refine vc_ret ?_
              refine r_fn rfl ?_
              -- return 4
              rfl
            · skip
              simp at hg69
          · skip
            cases hg64
end Go.Vi
