/- Vi, part H: make, struct and slice literals. -/
import Derived.Test.YteejggadbifdbaaGreatViA
section
set_option autoImplicit false
set_option linter.unusedVariables false
set_option linter.unusedSimpArgs false
namespace Go.Vi

theorem run_by {P : Program} {t : TypeId} {n : Nat} (h : byOf P t = some n) : ∃ i, (∀ w, (typeInfo t).run P w = .ok i w) ∧ i.bytes = n := by
  unfold byOf at h
  cases hi : P.info? t with
  | none => rw [hi] at h; cases h
  | some i => rw [hi] at h; cases h; exact ⟨i, by simp [typeInfo, hi], rfl⟩

/-- A type's zero value: its cells. -/
def zcOf (P : Program) (t : TypeId) : Option (List AV) := (zrOf P t).bind AV.cells

theorem run_zc {P : Program} {t : TypeId} {zc : List AV} (h : zcOf P t = some zc) (w : World) :
    ∃ V, (zeroValue t).run P w = .ok V w ∧ V.cells.size = zc.length ∧ ∀ (c : Cx) (j : Nat) (x : AV), zc[j]? = some x → ∃ U, V.cells[j]? = some U ∧ U.oneCell' = true ∧ Rel c x U := by
  unfold zcOf at h
  cases hz : zrOf P t with
  | none => rw [hz] at h; cases h
  | some z =>
    rw [hz] at h
    obtain ⟨V, h1, h2⟩ := run_zr hz w
    exact ⟨V, h1, ((h2 ⟨w, fun _ => True, fun _ => True, fun _ => none⟩).cells h).1, fun c j x hx => ((h2 c).cells h).2 j x hx⟩

theorem range0 : Array.range 0 = (#[] : Array Nat) := by simp

theorem zero_cells {c : Cx} {Z : Value} {zc : List AV} {sz n m : Nat} (hz : Z.cells.size = zc.length) (hs : zc.length = sz) (h0 : sz ≠ 0) (hm : m ≤ n)
    (hc : ∀ (j : Nat) (x : AV), zc[j]? = some x → ∃ U, Z.cells[j]? = some U ∧ U.oneCell' = true ∧ Rel c x U) :
    RowsAt c ((Array.range (n * sz)).map (fun j => Z.cells[j % Z.cells.size]!)) 0 sz (List.replicate m zc) := fun i r hr => by
  have hi : i < m := by have := (List.getElem?_eq_some_iff.1 hr).1; simpa using this
  rw [List.getElem?_replicate, if_pos hi] at hr
  cases hr
  refine ⟨hs, fun j x hx => ?_⟩
  have hj : j < sz := by rw [← hs]; exact (List.getElem?_eq_some_iff.1 hx).1
  obtain ⟨U, u1, u2, u3⟩ := hc j x hx
  refine ⟨U, ?_, u2, u3⟩
  have hlt : 0 + i * sz + j < n * sz := by
    have := Nat.mul_le_mul_right sz (show i + 1 ≤ n by omega)
    rw [Nat.add_mul, Nat.one_mul] at this
    omega
  have hmod : (0 + i * sz + j) % Z.cells.size = j := by
    rw [hz, hs, Nat.zero_add, Nat.add_comm, Nat.add_mul_mod_self_right, Nat.mod_eq_of_lt hj]
  rw [Array.getElem?_map, Array.getElem?_range, if_pos hlt]
  simp only [Option.map_some, hmod]
  have hj' : j < Z.cells.size := by omega
  rw [Array.getElem?_eq_getElem hj'] at u1
  cases u1
  simp [hj']

def vmake (P : Program) (H : Hp) (t : TypeId) (ln cp : AV) : Option (AV × Hp) :=
  match elemAt P t, ln, cp with
  | some (none, e, sz), .int _ n, .int _ m => match zcOf P e, byOf P e with
    | some zc, some by_ => if zc.length = sz ∧ sz ≠ 0 ∧ by_ ≠ 0 ∧ 0 ≤ n ∧ n ≤ m ∧ m * (by_ : Int) ≤ 140737488355328 then
        some (.row (n == m) H.length 0 n.toNat, H ++ [.arr e sz (List.replicate n.toNat zc)]) else none
    | _, _ => none
  | _, _, _ => none

theorem wrap_i64 {n : Int} (h0 : 0 ≤ n) (h : n ≤ 140737488355328) : IntKind.i64.wrap n = n := IntWalk.i64_in n ⟨by omega, by omega⟩

theorem make_sound {P : Program} {c : Cx} {H H' : Hp} (s : Sim c H) {t : TypeId} {ln cp v : AV} {LN CP : Value} (hL : Rel c ln LN) (hC : Rel c cp CP) (h : vmake P H t ln cp = some (v, H')) : Yields P c H (Instr.makeSlice t LN CP) v H' := by
  unfold vmake at h
  split at h
  · rename_i e sz k n k' m he
    obtain ⟨hsz, hu⟩ := elemAt_of he
    have hu := (hu.resolve_right (fun h => by obtain ⟨_, h, _⟩ := h; cases h)).2
    split at h
    · rename_i zc by_ hzc hby
      split at h
      · rename_i hc
        obtain ⟨c1, c2, c3, c4, c5, c6⟩ := hc
        cases h
        cases hL
        cases hC
        obtain ⟨Z, z1, z2, z3⟩ := run_zc hzc c.w
        obtain ⟨ti, t1, t2⟩ := run_by hby
        have hm : m ≤ 140737488355328 := by
          have h1 : (1 : Int) ≤ by_ := by omega
          have h2 : m * 1 ≤ m * (by_ : Int) := Int.mul_le_mul_of_nonneg_left h1 (by omega)
          omega
        have wn : IntKind.i64.wrap n = n := wrap_i64 c4 (by omega)
        have wm : IntKind.i64.wrap m = m := wrap_i64 (by omega) hm
        have big : ¬ (by_ : Int) * m > 2 ^ 48 := by
          rw [Int.mul_comm]
          have : (2 ^ 48 : Int) = 281474976710656 := by decide
          omega
        have tl : (decide (m < 0) || decide ((by_ : Int) * m > 2 ^ 48)) = false := by
          simp only [Bool.or_eq_false_iff, decide_eq_false_iff_not]
          exact ⟨by omega, big⟩
        refine ⟨.slice (some ⟨c.w.heap.size, 0, none⟩) n.toNat m.toNat, _, ?_, new_rows s e (zero_cells (n := m.toNat) (m := n.toNat) z2 c1 c2 (by omega) (z3 c)), ?_⟩
        · simp only [Instr.makeSlice, Sem.run_bind, run_un hu, Result.andThen_ok, asInt, asIntOf, Sem.run_pure, t1, t2, wn, wm, tl]
          have d1 : decide (n < 0) = false := decide_eq_false (by omega)
          have d2 : decide (n > m) = false := decide_eq_false (by omega)
          rw [if_neg (by simp [d1, d2]), Sem.run_bind, run_askRoom, Result.andThen_ok, Sem.run_bind, run_sz hsz, Result.andThen_ok]
          by_cases h0 : m.toNat * sz = 0
          · simp [h0, newRow, range0]
          · rw [if_neg h0]
            simp [z1, newRow]
        · refine .row _ H.length 0 _ ⟨c.w.heap.size, 0, sz, _⟩ 0 m.toNat (updρ_self _ _ _) (by simp) (by omega) (fun e => ?_) ?_
          · have : n = m := by simpa using e
            rw [this]
          · simp
      · cases h
    · cases h
  · cases h

/-! ### Literals -/
theorem foldl_put (off : Nat) : ∀ (vs : List Value) (k : Nat) (cells : Array Value), off + k + vs.length ≤ cells.size →
    let r := (vs.zipIdx k).foldl (fun cs (x : Value × Nat) => cs.setIfInBounds (off + x.2) x.1) cells
    r.size = cells.size ∧ ∀ m, r[m]? = if off + k ≤ m ∧ m < off + k + vs.length then vs[m - (off + k)]? else cells[m]?
  | [], k, cells, _ => by
    refine ⟨rfl, fun m => ?_⟩
    rw [if_neg (by simp only [List.length_nil]; omega)]
    rfl
  | v :: vs, k, cells, h => by
    simp only [List.length_cons] at h
    have ih := foldl_put off vs (k + 1) (cells.setIfInBounds (off + k) v) (by rw [Array.size_setIfInBounds]; omega)
    simp only [List.zipIdx_cons, List.foldl_cons]
    refine ⟨by rw [ih.1]; simp, fun m => ?_⟩
    rw [ih.2]
    by_cases h1 : off + (k + 1) ≤ m ∧ m < off + (k + 1) + vs.length
    · rw [if_pos h1, if_pos (by simp only [List.length_cons]; omega), show m - (off + k) = (m - (off + (k + 1))) + 1 by omega, List.getElem?_cons_succ]
    · rw [if_neg h1]
      by_cases h2 : m = off + k
      · subst h2
        rw [if_pos (by simp only [List.length_cons]; omega)]
        rw [Array.getElem?_setIfInBounds_self_of_lt (by omega)]
        simp
      · rw [if_neg (by simp only [List.length_cons]; omega), Array.getElem?_setIfInBounds_ne (by omega)]

/-- One part of a literal laid. -/
theorem fill_cons {place : Nat → Option (Nat × Nat)} {cells : Array Value} {i off size : Nat} {V : Value} {rest : List (Nat × Value)} (hp : place i = some (off, size)) (hV : V.cells.size = size) (hf : off + size ≤ cells.size) :
    ∃ cells', Instr.fill place cells ((i, V) :: rest) = Instr.fill place cells' rest ∧ cells'.size = cells.size ∧ ∀ m, cells'[m]? = if off ≤ m ∧ m < off + size then V.cells[m - off]? else cells[m]? := by
  have h := foldl_put off V.cells.toList 0 cells (by simp; omega)
  refine ⟨V.cells.zipIdx.foldl (fun cs (c, j) => cs.setIfInBounds (off + j) c) cells, ?_, ?_, fun m => ?_⟩
  · have hc : ¬ (V.cells.size ≠ size ∨ off + V.cells.size > cells.size) := by omega
    simp only [Instr.fill, hp]
    rw [if_neg (by simpa using hc)]
  · have := h.1
    rw [← Array.foldl_toList, Array.toList_zipIdx]
    exact this
  · have := h.2 m
    rw [← Array.foldl_toList, Array.toList_zipIdx]
    simp only [Nat.add_zero, Array.length_toList, hV] at this
    rw [this]
    simp

def vfillRows (sz : Nat) (rows : List (List AV)) : List (Nat × AV) → Option (List (List AV))
  | [] => some rows
  | (i, v) :: rest => match v.cells with
    | some cs => if cs.length = sz ∧ i < rows.length then vfillRows sz (rows.set i cs) rest else none
    | none => none

/-- Parts alike on both sides. -/
inductive PartsR (c : Cx) : List (Nat × AV) → List (Nat × Value) → Prop
  | nil : PartsR c [] []
  | cons {i : Nat} {x : AV} {X : Value} {r : List (Nat × AV)} {R : List (Nat × Value)} : Rel c x X → PartsR c r R → PartsR c ((i, x) :: r) ((i, X) :: R)

theorem fillRows_sound {c : Cx} {sz : Nat} (h0 : sz ≠ 0) {ps : List (Nat × AV)} {PS : List (Nat × Value)} (hp : PartsR c ps PS) : ∀ {rows rows' : List (List AV)} {cells : Array Value}, vfillRows sz rows ps = some rows' → RowsAt c cells 0 sz rows → cells.size = rows.length * sz →
    ∃ cells', Instr.fill (fun i => some (i * sz, sz)) cells PS = some cells' ∧ RowsAt c cells' 0 sz rows' ∧ cells'.size = cells.size ∧ rows'.length = rows.length := by
  induction hp with
  | nil => intro rows rows' cells h hR hs; cases h; exact ⟨cells, rfl, hR, rfl, rfl⟩
  | @cons i x X r R hX hr ih =>
    intro rows rows' cells h hR hs
    unfold vfillRows at h
    split at h
    · rename_i cs hcs
      split at h
      · rename_i hc
        obtain ⟨hlen, hi⟩ := hc
        obtain ⟨hXs, hXc⟩ := hX.cells hcs
        have hf : i * sz + sz ≤ cells.size := by
          have := Nat.mul_le_mul_right sz (show i + 1 ≤ rows.length by omega)
          rw [Nat.add_mul, Nat.one_mul] at this
          omega
        obtain ⟨cells1, e1, e2, e3⟩ := fill_cons (place := fun i => some (i * sz, sz)) (rest := R) rfl (show X.cells.size = sz by omega) hf
        have hrow : rows[i]? = some rows[i] := List.getElem?_eq_getElem hi
        have hput : RowsAt c cells1 0 sz (rows.set i (setC rows[i] 0 cs)) := by
          have hl := (hR i _ hrow).1
          refine hR.put hrow (by omega) (vs := X.cells.toList) (by simp; omega) (fun j y hy => ?_) (fun m => ?_)
          · obtain ⟨U, u1, u2, u3⟩ := hXc j y hy
            exact ⟨U, by simpa using u1, u2, u3⟩
          · rw [e3]
            simp only [Nat.zero_add, Nat.add_zero, Array.length_toList, Array.getElem?_toList]
            rw [show X.cells.size = sz by omega]
        have hset : setC rows[i] 0 cs = cs := by
          have hl := (hR i _ hrow).1
          unfold setC
          rw [List.take_zero, List.nil_append, List.drop_of_length_le (by omega), List.append_nil]
        rw [hset] at hput
        obtain ⟨cells2, f1, f2, f3, f4⟩ := ih h hput (by rw [e2, hs]; simp)
        exact ⟨cells2, e1.trans f1, f2, f3.trans e2, by rw [f4]; simp⟩
      · cases h
    · cases h

def vbuildSlice (P : Program) (H : Hp) (t : TypeId) (len : Nat) (ps : List (Nat × AV)) : Option (AV × Hp) :=
  match elemAt P t with
  | some (none, e, sz) => match zcOf P e with
    | some zc => if zc.length = sz ∧ sz ≠ 0 ∧ len * sz ≤ 2 ^ 24 then match vfillRows sz (List.replicate len zc) ps with
        | some rows => some (.row true H.length 0 len, H ++ [.arr e sz rows])
        | none => none
      else none
    | none => none
  | _ => none

theorem buildSlice_sound {P : Program} {c : Cx} {H H' : Hp} (s : Sim c H) {t : TypeId} {len : Nat} {ps : List (Nat × AV)} {PS : Array (Nat × Value)} {v : AV} (hp : PartsR c ps PS.toList) (h : vbuildSlice P H t len ps = some (v, H')) :
    Yields P c H (Instr.buildSlice t len PS) v H' := by
  unfold vbuildSlice at h
  split at h
  · rename_i e sz he
    obtain ⟨hsz, hu⟩ := elemAt_of he
    have hu := (hu.resolve_right (fun h => by obtain ⟨_, h, _⟩ := h; cases h)).2
    split at h
    · rename_i zc hzc
      split at h
      · rename_i hc
        obtain ⟨c1, c2, c3⟩ := hc
        split at h
        · rename_i rows hf
          cases h
          obtain ⟨Z, z1, z2, z3⟩ := run_zc hzc c.w
          have hR := zero_cells (c := c) (n := len) (m := len) z2 c1 c2 (Nat.le_refl _) (z3 c)
          obtain ⟨cells, f1, f2, f3, f4⟩ := fillRows_sound c2 hp hf hR (by simp)
          refine ⟨.slice (some ⟨c.w.heap.size, 0, none⟩) len len, _, ?_, new_rows s e f2, ?_⟩
          · simp only [Instr.buildSlice, Sem.run_bind, run_un hu, Result.andThen_ok, run_sz hsz]
            rw [if_neg (by omega)]
            by_cases h0 : len * sz = 0
            · rw [if_pos h0]
              have e0 : (Array.map (fun x => (#[] : Array Value)[x % (#[] : Array Value).size]!) (Array.range (len * sz))) = (Array.range (len * sz)).map (fun j => Z.cells[j % Z.cells.size]!) := by rw [h0]; simp [range0]
              simp only [pure_bind, e0, f1]
              simp [newRow]
            · rw [if_neg h0]
              simp only [bind_assoc, pure_bind, Sem.run_bind, z1, Result.andThen_ok, f1]
              simp [newRow]
          · refine .row _ H.length 0 _ ⟨c.w.heap.size, 0, sz, _⟩ 0 len (updρ_self _ _ _) (by simp) (Nat.le_refl _) (fun _ => rfl) ?_
            simp [f3]
        · cases h
      · cases h
    · cases h
  · cases h

def vfill (place : Nat → Option (Nat × Nat)) (cs : List AV) : List (Nat × AV) → Option (List AV)
  | [] => some cs
  | (i, v) :: rest => match place i, v.cells with
    | some (off, n), some vs => if vs.length = n ∧ off + n ≤ cs.length then vfill place (setC cs off vs) rest else none
    | _, _ => none

def AggR (c : Cx) (cs : List AV) (Vs : Array Value) : Prop := cs.length = Vs.size ∧ ∀ (j : Nat) (x : AV), cs[j]? = some x → ∃ U, Vs[j]? = some U ∧ U.oneCell' = true ∧ Rel c x U

theorem AggR.rel {c : Cx} {cs : List AV} {Vs : Array Value} (h : AggR c cs Vs) : Rel c (.agg cs) (.agg Vs) := by
  refine .agg cs Vs h.1 (fun j V hV => ?_) (fun j x V hx hV => ?_)
  · have hj := (Array.getElem?_eq_some_iff.1 hV).1
    have hj' : j < cs.length := by rw [h.1]; exact hj
    obtain ⟨U, u1, u2, _⟩ := h.2 j cs[j] (List.getElem?_eq_getElem hj')
    rw [hV] at u1
    cases u1
    exact u2
  · obtain ⟨U, u1, _, u3⟩ := h.2 j x hx
    rw [hV] at u1
    cases u1
    exact u3

theorem fill_sound {c : Cx} {place place' : Nat → Option (Nat × Nat)} (hpl : ∀ i a, place i = some a → place' i = some a) {ps : List (Nat × AV)} {PS : List (Nat × Value)} (hp : PartsR c ps PS) : ∀ {cs cs' : List AV} {cells : Array Value}, vfill place cs ps = some cs' → AggR c cs cells →
    ∃ cells', Instr.fill place' cells PS = some cells' ∧ AggR c cs' cells' := by
  induction hp with
  | nil => intro cs cs' cells h hR; cases h; exact ⟨cells, rfl, hR⟩
  | @cons i x X r R hX hr ih =>
    intro cs cs' cells h hR
    unfold vfill at h
    split at h
    · rename_i off n vs hpi hvs
      split at h
      · rename_i hc
        obtain ⟨hlen, hf⟩ := hc
        obtain ⟨hXs, hXc⟩ := hX.cells hvs
        obtain ⟨cells1, e1, e2, e3⟩ := fill_cons (rest := R) (hpl i _ hpi) (show X.cells.size = n by omega) (cells := cells) (by have := hR.1; omega)
        have hput : AggR c (setC cs off vs) cells1 := by
          refine ⟨by rw [setC_length (by omega), e2, hR.1], fun j y hy => ?_⟩
          rw [setC_get (by omega)] at hy
          split at hy
          · rename_i hj
            obtain ⟨U, u1, u2, u3⟩ := hXc _ y hy
            exact ⟨U, by rw [e3, if_pos (by omega)]; exact u1, u2, u3⟩
          · rename_i hj
            obtain ⟨U, u1, u2, u3⟩ := hR.2 j y hy
            exact ⟨U, by rw [e3, if_neg (by omega)]; exact u1, u2, u3⟩
        obtain ⟨cells2, f1, f2⟩ := ih h hput
        exact ⟨cells2, e1.trans f1, f2⟩
      · cases h
    · cases h

/-- Where a literal's parts lie. -/
def sizesOf (P : Program) : List Field → Option (List (Nat × Nat))
  | [] => some []
  | f :: r => match szOf P f.type, sizesOf P r with
    | some n, some l => some ((f.offset, n) :: l)
    | _, _ => none

theorem sizes_run {P : Program} (w : World) : ∀ {fs : List Field} {l : List (Nat × Nat)}, sizesOf P fs = some l → (fs.mapM fun f => do pure (f.offset, ← sizeOf f.type) : Sem (List (Nat × Nat))).run P w = .ok l w
  | [], l, h => by cases h; rfl
  | f :: r, l, h => by
    unfold sizesOf at h
    split at h
    · rename_i n l' hn hl
      cases h
      have ih := sizes_run w hl
      simp only [List.mapM_cons, bind_assoc, Sem.run_bind, run_sz hn, Result.andThen_ok, pure_bind, ih]
      rfl
    · cases h

def vbuild (P : Program) (t : TypeId) (ps : List (Nat × AV)) : Option AV :=
  match P.underlying t, zrOf P t with
  | some (.struct fields), some (.agg zc) => match sizesOf P fields.toList with
    | some l => (vfill (l[·]?) zc ps).map .agg
    | none => none
  | some (.array _ e), some (.agg zc) => match szOf P e with
    | some n => (vfill (fun i => some (i * n, n)) zc ps).map .agg
    | none => none
  | _, _ => none

theorem zr_agg {P : Program} {t : TypeId} {zc : List AV} (h : zrOf P t = some (.agg zc)) (c : Cx) (w : World) : ∃ Vs, (zeroValue t).run P w = .ok (.agg Vs) w ∧ AggR c zc Vs := by
  obtain ⟨V, h1, h2⟩ := run_zr h w
  have := h2 c
  cases V with
  | agg Vs =>
    refine ⟨Vs, h1, ?_⟩
    have hc := this.cells (cs := zc) rfl
    exact ⟨hc.1.symm, hc.2⟩
  | _ => cases this

theorem build_sound {P : Program} {c : Cx} {t : TypeId} {ps : List (Nat × AV)} {PS : Array (Nat × Value)} {v : AV} (hp : PartsR c ps PS.toList) (h : vbuild P t ps = some v) : ∃ V, (Instr.build t PS).run P c.w = .ok V c.w ∧ Rel c v V := by
  unfold vbuild at h
  split at h
  · rename_i fields zc hu hz
    obtain ⟨Vs, z1, z2⟩ := zr_agg hz c c.w
    split at h
    · rename_i l hl
      cases hf : vfill (l[·]?) zc ps with
      | none => rw [hf] at h; cases h
      | some cs =>
        rw [hf] at h
        cases h
        have hm : (fields.mapM fun f => do pure (f.offset, ← sizeOf f.type) : Sem (Array (Nat × Nat))).run P c.w = .ok l.toArray c.w := by
          rw [Array.mapM_eq_mapM_toList, Sem.run_map, sizes_run c.w hl]
          rfl
        obtain ⟨cells, f1, f2⟩ := fill_sound (place' := (l.toArray[·]?)) (fun i a h => by simpa using h) hp hf z2
        refine ⟨.agg cells, ?_, f2.rel⟩
        simp only [Instr.build, Sem.run_bind, z1, Result.andThen_ok, run_un hu, hm, Value.cells, f1]
        rfl
    · cases h
  · rename_i n e zc hu hz
    obtain ⟨Vs, z1, z2⟩ := zr_agg hz c c.w
    split at h
    · rename_i m hm
      cases hf : vfill (fun i => some (i * m, m)) zc ps with
      | none => rw [hf] at h; cases h
      | some cs =>
        rw [hf] at h
        cases h
        obtain ⟨cells, f1, f2⟩ := fill_sound (place' := fun i => some (i * m, m)) (fun i a h => h) hp hf z2
        refine ⟨.agg cells, ?_, f2.rel⟩
        simp only [Instr.build, Sem.run_bind, z1, Result.andThen_ok, run_un hu, run_sz hm, Value.cells, f1]
        rfl
    · cases h
  · cases h
end Go.Vi
end
section
set_option autoImplicit false
set_option linter.unusedVariables false
set_option linter.unusedSimpArgs false
namespace Go.Vi

/-! ### What lies in a slice, cell by cell -/
def FlatRows (c : Cx) (vs : List Value) (sz : Nat) (rows : List (List AV)) : Prop :=
  vs.length = rows.length * sz ∧ ∀ (i : Nat) (r : List AV), rows[i]? = some r → r.length = sz ∧ ∀ (j : Nat) (x : AV), r[j]? = some x → ∃ U, vs[i * sz + j]? = some U ∧ U.oneCell' = true ∧ Rel c x U

theorem FlatRows.one {c : Cx} {vs : List Value} {sz : Nat} {rows : List (List AV)} (h : FlatRows c vs sz rows) (h0 : sz ≠ 0) : ∀ v ∈ vs, v.oneCell' = true := fun v hv => by
  obtain ⟨q, hq, rfl⟩ := List.getElem_of_mem hv
  have hlen := h.1
  have hlt : q / sz < rows.length := by
    rw [Nat.div_lt_iff_lt_mul (by omega)]
    omega
  have hj : q % sz < sz := Nat.mod_lt _ (by omega)
  have hr : rows[q / sz]? = some rows[q / sz] := List.getElem?_eq_getElem hlt
  obtain ⟨h1, h2⟩ := h.2 _ _ hr
  obtain ⟨U, u1, u2, _⟩ := h2 (q % sz) (rows[q / sz])[q % sz] (List.getElem?_eq_getElem (by omega))
  have e : q / sz * sz + q % sz = q := by rw [Nat.mul_comm]; exact Nat.div_add_mod q sz
  rw [e, List.getElem?_eq_getElem hq] at u1
  cases u1
  exact u2

theorem FlatRows.mono {c c' : Cx} (m : Mono c c') {vs : List Value} {sz : Nat} {rows : List (List AV)} (h : FlatRows c vs sz rows) : FlatRows c' vs sz rows :=
  ⟨h.1, fun i r hr => ⟨(h.2 i r hr).1, fun j x hx => let ⟨U, u1, u2, u3⟩ := (h.2 i r hr).2 j x hx; ⟨U, u1, u2, u3.mono m⟩⟩⟩

theorem FlatRows.append {c : Cx} {vs us : List Value} {sz : Nat} {rows rows' : List (List AV)} (h : FlatRows c vs sz rows) (k : FlatRows c us sz rows') : FlatRows c (vs ++ us) sz (rows ++ rows') := by
  refine ⟨by rw [List.length_append, List.length_append, h.1, k.1, Nat.add_mul], fun i r hr => ?_⟩
  by_cases hi : i < rows.length
  · rw [List.getElem?_append_left hi] at hr
    obtain ⟨h1, h2⟩ := h.2 i r hr
    refine ⟨h1, fun j x hx => ?_⟩
    obtain ⟨U, u1, u2, u3⟩ := h2 j x hx
    exact ⟨U, by rw [List.getElem?_append_left (List.getElem?_eq_some_iff.1 u1).1]; exact u1, u2, u3⟩
  · rw [List.getElem?_append_right (by omega)] at hr
    obtain ⟨h1, h2⟩ := k.2 _ r hr
    refine ⟨h1, fun j x hx => ?_⟩
    obtain ⟨U, u1, u2, u3⟩ := h2 j x hx
    refine ⟨U, ?_, u2, u3⟩
    have e : i * sz + j = rows.length * sz + ((i - rows.length) * sz + j) := by
      rw [← Nat.add_assoc, ← Nat.add_mul]
      congr 2
      omega
    rw [List.getElem?_append_right (by rw [h.1]; omega), h.1, e, Nat.add_sub_cancel_left]
    exact u1

theorem FlatRows.at_ {c : Cx} {vs rest : List Value} {sz : Nat} {rows : List (List AV)} (h : FlatRows c vs sz rows) : RowsAt c (vs ++ rest).toArray 0 sz rows := fun i r hr => by
  obtain ⟨h1, h2⟩ := h.2 i r hr
  refine ⟨h1, fun j x hx => ?_⟩
  obtain ⟨U, u1, u2, u3⟩ := h2 j x hx
  refine ⟨U, ?_, u2, u3⟩
  rw [Nat.zero_add, List.getElem?_toArray, List.getElem?_append_left (List.getElem?_eq_some_iff.1 u1).1]
  exact u1

theorem FlatRows.nil (c : Cx) (sz : Nat) : FlatRows c [] sz [] := ⟨by simp, fun i r hr => by cases hr⟩

/-- A slice's first cells, read in any world whose cells are the same. -/
theorem SliceAt.flat {P : Program} {c : Cx} {V : Value} {sz : Nat} {rows : List (List AV)} (h : SliceAt c V sz rows) (h0 : sz ≠ 0) :
    ∃ vs, FlatRows c vs sz rows ∧ (∀ w, (Builtin.lenOf V).run P w = .ok rows.length w) ∧ ∀ (m : Nat) (w : World), m ≤ rows.length → (∀ a, w.cell? a = c.w.cell? a) → (Builtin.firstCells sz m V).run P w = .ok (vs.take (m * sz)).toArray w := by
  rcases h with ⟨base, cap, rfl, rfl⟩ | ⟨b, o, cap, rfl, h⟩
  · exact ⟨[], FlatRows.nil c sz, fun w => rfl, fun m w hm _ => by
      obtain rfl : m = 0 := by simpa using hm
      cases base with
      | none => simp [Builtin.firstCells]
      | some a =>
        have := run_loadCells_list (P := P) w a [] (fun j v h => by cases h)
        simpa [Builtin.firstCells] using this⟩
  · have hF : ∀ q, ∃ V, q < rows.length * sz → c.w.cell? ⟨b, o + q, none⟩ = some V ∧ V.oneCell' = true ∧ ∀ (i : Nat) (r : List AV) (j : Nat) (x : AV), rows[i]? = some r → r[j]? = some x → i * sz + j = q → Rel c x V := fun q => by
      by_cases hq : q < rows.length * sz
      · have hlt : q / sz < rows.length := by rw [Nat.div_lt_iff_lt_mul (by omega)]; exact hq
        have hj : q % sz < sz := Nat.mod_lt _ (by omega)
        have hr : rows[q / sz]? = some rows[q / sz] := List.getElem?_eq_getElem hlt
        obtain ⟨h1, h2⟩ := h _ _ hr
        obtain ⟨V, v1, v2, v3⟩ := h2 (q % sz) (rows[q / sz])[q % sz] (List.getElem?_eq_getElem (by omega))
        have e : q / sz * sz + q % sz = q := by rw [Nat.mul_comm]; exact Nat.div_add_mod q sz
        rw [Nat.add_assoc, e] at v1
        refine ⟨V, fun _ => ⟨v1, v2, fun i r j x hi hx he => ?_⟩⟩
        obtain ⟨g1, g2⟩ := h i r hi
        obtain ⟨V', w1, w2, w3⟩ := g2 j x hx
        rw [Nat.add_assoc, he, v1] at w1
        cases w1
        exact w3
      · exact ⟨undef, fun h => absurd h hq⟩
    refine ⟨(List.range (rows.length * sz)).map (fun q => (hF q).choose), ⟨by simp, fun i r hr => ?_⟩, fun w => rfl, fun m w hm hw => ?_⟩
    · obtain ⟨h1, h2⟩ := h i r hr
      refine ⟨h1, fun j x hx => ?_⟩
      have hj : j < sz := by rw [← h1]; exact (List.getElem?_eq_some_iff.1 hx).1
      have hi : i < rows.length := (List.getElem?_eq_some_iff.1 hr).1
      have hq : i * sz + j < rows.length * sz := by
        have := Nat.mul_le_mul_right sz (show i + 1 ≤ rows.length by omega)
        rw [Nat.add_mul, Nat.one_mul] at this
        omega
      exact ⟨(hF (i * sz + j)).choose, by rw [List.getElem?_map, List.getElem?_range hq]; rfl, ((hF _).choose_spec hq).2.1, ((hF _).choose_spec hq).2.2 i r j x hr hx rfl⟩
    · have hms : m * sz ≤ rows.length * sz := Nat.mul_le_mul_right sz hm
      have := run_loadCells (P := P) w ⟨b, o, none⟩ (m * sz) (fun q => (hF q).choose) (fun j hj => by rw [add_spot, hw]; exact ((hF j).choose_spec (by omega)).1)
      simp only [Builtin.firstCells]
      rw [this, ← List.map_take, List.take_range]
      congr 4
      omega

def strRows (s : ByteArray) : List (List AV) := s.data.toList.map fun b => [.int .u8 b.toNat]

theorem str_flat {P : Program} {c : Cx} (s : ByteArray) : ∃ vs, FlatRows c vs 1 (strRows s) ∧ (∀ w, (Builtin.lenOf (.string s)).run P w = .ok (strRows s).length w) ∧
    ∀ (m : Nat) (w : World), m ≤ (strRows s).length → (Builtin.firstCells 1 m (.string s)).run P w = .ok (vs.take (m * 1)).toArray w := by
  have hlen : (strRows s).length = s.size := by unfold strRows; rw [List.length_map]; rfl
  refine ⟨s.data.toList.map (fun b => .int .u8 b.toNat), ⟨by simp [strRows], fun i r hr => ?_⟩, fun w => by rw [hlen]; rfl, fun m w hm => ?_⟩
  · simp only [strRows, List.getElem?_map] at hr
    cases hb : s.data.toList[i]? with
    | none => rw [hb] at hr; cases hr
    | some b =>
      rw [hb] at hr
      cases hr
      refine ⟨rfl, fun j x hx => ?_⟩
      cases j with
      | succ j => simp at hx
      | zero =>
        simp at hx
        subst hx
        refine ⟨.int .u8 b.toNat, ?_, rfl, .int _ _⟩
        simp only [Nat.mul_one, Nat.add_zero, List.getElem?_map, hb]
        rfl
  · simp only [Builtin.firstCells, Nat.mul_one, Sem.run_pure]
    congr 1
    apply Array.ext'
    rw [Array.toList_map, List.toList_toArray, ← List.map_take]
    congr 1
    show (s.extract 0 m).data.toList = _
    rw [ByteArray.data_extract]
    simp

/-! ### Freezing what is handed on -/
def frzCell (H : Hp) (x : AV) : Option (Hp × AV) :=
  match x with
  | .row _ l i n => match H[l]? with
    | some (.arr _ sz rows) => if i + n ≤ rows.length ∧ allVal rows = true then some (H.set l (.frz sz rows), .list .loose ((rows.drop i).take n)) else none
    | some (.frz _ rows) => if i + n ≤ rows.length then some (H, .list .loose ((rows.drop i).take n)) else none
    | _ => none
  | .sub .. => none
  | x => some (H, x)

theorem frz_rel {c : Cx} {H : Hp} (s : Sim c H) {t : Bool} {l i n sz : Nat} {rows : List (List AV)} {X : Value} (hl : H[l]? = some (.frz sz rows)) (hX : Rel c (.row t l i n) X) (hle : i + n ≤ rows.length) :
    Rel c (.list .loose ((rows.drop i).take n)) X := by
  obtain ⟨e0, cl, cells, T, fr, e1, e2, e3, e4, e5, e6⟩ := s.obj l _ hl
  cases hX with
  | row _ _ _ _ cl2 o cap hρ ho hn ht hlim =>
    rw [hρ] at e1
    cases e1
    subst e2
    have hlen : ((rows.drop i).take n).length = n := by simp; omega
    have hrow : ∀ (q : Nat) (r : List AV), ((rows.drop i).take n)[q]? = some r → rows[i + q]? = some r ∧ q < n := fun q r hr => by
      have hq : q < n := by have := (List.getElem?_eq_some_iff.1 hr).1; omega
      rw [List.getElem?_take, if_pos hq, List.getElem?_drop] at hr
      exact ⟨hr, hq⟩
    have hF : ∀ q j, ∃ V, q < n → j < cl.sz → c.w.cell? ⟨cl.blk, o + q * cl.sz + j, none⟩ = some V ∧ V.oneCell' = true ∧ ∀ (r : List AV) (x : AV), rows[i + q]? = some r → r[j]? = some x → Rel c x V := fun q j => by
      by_cases h : q < n ∧ j < cl.sz
      · have hr : rows[i + q]? = some rows[i + q] := List.getElem?_eq_getElem (by omega)
        obtain ⟨g1, g2⟩ := e6 _ _ hr
        obtain ⟨V, v1, v2, v3⟩ := g2 j (rows[i + q])[j] (List.getElem?_eq_getElem (by omega))
        refine ⟨V, fun _ _ => ⟨?_, v2, fun r x hr' hx => ?_⟩⟩
        · rw [cell_at e3, ← v1, ho, Nat.add_mul]
          congr 1
          omega
        · rw [hr] at hr'
          cases hr'
          rw [List.getElem?_eq_getElem (by omega)] at hx
          cases hx
          exact v3
      · exact ⟨undef, fun a b => absurd ⟨a, b⟩ h⟩
    have := Rel.list (c := c) .loose ((rows.drop i).take n) cl.blk o cl.sz cap none (.inr rfl) (fun q j => (hF q j).choose) (.inr e5) (by omega) (fun h => by cases h)
      (fun r hr => by obtain ⟨q, hq⟩ := List.mem_iff_getElem?.1 hr; exact (e6 _ _ (hrow q r hq).1).1)
      (List.all_eq_true.2 (fun r hr => List.all_eq_true.1 e0 r (List.mem_of_mem_drop (List.mem_of_mem_take hr))))
      (fun q j hq hj => by rw [hlen] at hq; have := (hF q j).choose_spec hq hj; exact ⟨this.1, this.2.1⟩)
      (fun q r j x hr hx => by
        obtain ⟨h1, h2⟩ := hrow q r hr
        have hj : j < cl.sz := by rw [← (e6 _ _ h1).1]; exact (List.getElem?_eq_some_iff.1 hx).1
        exact ((hF q j).choose_spec h2 hj).2.2 r x h1 hx)
    rwa [hlen] at this

/-- From c to c' the world itself has not moved. -/
structure Still (c : Cx) (H : Hp) (c' : Cx) (H' : Hp) : Prop where
  to_ : To c H c' H'
  w : c'.w = c.w

theorem Still.refl {c : Cx} {H : Hp} (s : Sim c H) : Still c H c H := ⟨To.refl s, rfl⟩
theorem Still.trans {a b c : Cx} {H1 H2 H3 : Hp} (s : Sim a H1) (h : Still a H1 b H2) (k : Still b H2 c H3) : Still a H1 c H3 := ⟨h.to_.trans s k.to_, k.w.trans h.w⟩

theorem frzCell_sound {c : Cx} {H H' : Hp} (s : Sim c H) {x y : AV} {X : Value} (hX : Rel c x X) (h : frzCell H x = some (H', y)) : ∃ c', Still c H c' H' ∧ Rel c' y X := by
  unfold frzCell at h
  split at h
  · rename_i t l i n
    split at h
    · rename_i sz rows hl
      split at h
      · rename_i hc
        cases h
        obtain ⟨cl, hρ, ht⟩ := To.freeze s hl hc.2
        refine ⟨_, ⟨ht, rfl⟩, ?_⟩
        have hlen : l < H.length := (List.getElem?_eq_some_iff.1 hl).1
        exact frz_rel ht.sim (List.getElem?_set_self hlen) (hX.mono ht.ext.mono) hc.1
      · cases h
    · rename_i sz rows hl
      split at h
      · rename_i hc
        cases h
        exact ⟨c, Still.refl s, frz_rel s hl hX hc⟩
      · cases h
    · cases h
  · cases h
  · cases h
    exact ⟨c, Still.refl s, hX⟩

def frzCells (H : Hp) : List AV → Option (Hp × List AV)
  | [] => some (H, [])
  | x :: r => match frzCell H x with
    | some (H1, y) => match frzCells H1 r with
      | some (H2, ys) => some (H2, y :: ys)
      | none => none
    | none => none

def frzRows (H : Hp) : List (List AV) → Option (Hp × List (List AV))
  | [] => some (H, [])
  | x :: r => match frzCells H x with
    | some (H1, y) => match frzRows H1 r with
      | some (H2, ys) => some (H2, y :: ys)
      | none => none
    | none => none

theorem frzCells_len : ∀ {xs ys : List AV} {H H' : Hp}, frzCells H xs = some (H', ys) → ys.length = xs.length
  | [], ys, H, H', h => by cases h; rfl
  | x :: r, ys, H, H', h => by
    unfold frzCells at h
    split at h
    · split at h
      · rename_i h2
        cases h
        simp [frzCells_len h2]
      · cases h
    · cases h

theorem frzCells_sound : ∀ {xs ys : List AV} {c : Cx} {H H' : Hp}, Sim c H → frzCells H xs = some (H', ys) →
    ∀ F : Nat → Value, (∀ (j : Nat) (x : AV), xs[j]? = some x → Rel c x (F j)) → ∃ c', Still c H c' H' ∧ ∀ (j : Nat) (y : AV), ys[j]? = some y → Rel c' y (F j)
  | [], ys, c, H, H', s, h => by cases h; exact fun F _ => ⟨c, Still.refl s, fun j y hy => by cases hy⟩
  | x :: r, ys, c, H, H', s, h => by
    unfold frzCells at h
    split at h
    · rename_i H1 y h1
      split at h
      · rename_i H2 ys' h2
        cases h
        intro F hF
        obtain ⟨c1, s1, r1⟩ := frzCell_sound s (hF 0 x (by simp)) h1
        obtain ⟨c2, s2, r2⟩ := frzCells_sound s1.to_.sim h2 (fun j => F (j + 1)) (fun j z hz => (hF (j + 1) z (by simpa using hz)).mono s1.to_.ext.mono)
        refine ⟨c2, s1.trans s s2, fun j z hz => ?_⟩
        cases j with
        | zero => simp at hz; subst hz; exact r1.mono s2.to_.ext.mono
        | succ j => exact r2 j z (by simpa using hz)
      · cases h
    · cases h

theorem frzRows_len : ∀ {xs ys : List (List AV)} {H H' : Hp}, frzRows H xs = some (H', ys) → ys.map List.length = xs.map List.length
  | [], ys, H, H', h => by cases h; rfl
  | x :: r, ys, H, H', h => by
    unfold frzRows at h
    split at h
    · rename_i h1
      split at h
      · rename_i h2
        cases h
        simp [frzCells_len h1, frzRows_len h2]
      · cases h
    · cases h

theorem frzRows_sound : ∀ {xs ys : List (List AV)} {c : Cx} {H H' : Hp}, Sim c H → frzRows H xs = some (H', ys) →
    ∀ F : Nat → Nat → Value, (∀ (i : Nat) (r : List AV), xs[i]? = some r → ∀ (j : Nat) (x : AV), r[j]? = some x → Rel c x (F i j)) →
      ∃ c', Still c H c' H' ∧ ∀ (i : Nat) (r : List AV), ys[i]? = some r → ∀ (j : Nat) (y : AV), r[j]? = some y → Rel c' y (F i j)
  | [], ys, c, H, H', s, h => by cases h; exact fun F _ => ⟨c, Still.refl s, fun i r hr => by cases hr⟩
  | x :: r, ys, c, H, H', s, h => by
    unfold frzRows at h
    split at h
    · rename_i H1 y h1
      split at h
      · rename_i H2 ys' h2
        cases h
        intro F hF
        obtain ⟨c1, s1, r1⟩ := frzCells_sound s h1 (F 0) (fun j z hz => hF 0 x (by simp) j z hz)
        obtain ⟨c2, s2, r2⟩ := frzRows_sound s1.to_.sim h2 (fun i => F (i + 1)) (fun i r' hr' j z hz => (hF (i + 1) r' (by simpa using hr') j z hz).mono s1.to_.ext.mono)
        refine ⟨c2, s1.trans s s2, fun i r' hr' j z hz => ?_⟩
        cases i with
        | zero => simp at hr'; subst hr'; exact (r1 j z hz).mono s2.to_.ext.mono
        | succ i => exact r2 i r' (by simpa using hr') j z hz
      · cases h
    · cases h

/-- Frozen rows lie where they lay. -/
theorem frzFlat {c : Cx} {H H' : Hp} (s : Sim c H) {vs : List Value} {sz : Nat} {rows ys : List (List AV)} (hf : FlatRows c vs sz rows) (h : frzRows H rows = some (H', ys)) :
    ∃ c', Still c H c' H' ∧ FlatRows c' vs sz ys := by
  obtain ⟨c', s1, r1⟩ := frzRows_sound s h (fun i j => vs.getD (i * sz + j) undef) (fun i r hr j x hx => by
    obtain ⟨U, u1, u2, u3⟩ := (hf.2 i r hr).2 j x hx
    rw [List.getD_eq_getElem?_getD, u1]
    exact u3)
  have hl := frzRows_len h
  have hlen : ys.length = rows.length := by have := congrArg List.length hl; simpa using this
  refine ⟨c', s1, by rw [hlen, hf.1], fun i r hr => ?_⟩
  have hi : i < rows.length := by rw [← hlen]; exact (List.getElem?_eq_some_iff.1 hr).1
  have hr0 : rows[i]? = some rows[i] := List.getElem?_eq_getElem hi
  have hrl : r.length = sz := by
    have := congrArg (·[i]?) hl
    simp only [List.getElem?_map, hr, hr0, Option.map_some, Option.some.injEq] at this
    rw [this]
    exact (hf.2 i _ hr0).1
  refine ⟨hrl, fun j x hx => ?_⟩
  have hj : j < sz := by rw [← hrl]; exact (List.getElem?_eq_some_iff.1 hx).1
  have h0 := (hf.2 i _ hr0)
  obtain ⟨U, u1, u2, _⟩ := h0.2 j (rows[i])[j] (List.getElem?_eq_getElem (by omega))
  have := r1 i r hr j x hx
  rw [List.getD_eq_getElem?_getD, u1] at this
  exact ⟨U, u1, u2, this⟩
end Go.Vi
end
section
set_option autoImplicit false
set_option linter.unusedVariables false
set_option linter.unusedSimpArgs false
namespace Go.Vi

/-- What append and copy take from: a slice's rows, a text's bytes. -/
def srcRows (H : Hp) : AV → Option (List (List AV))
  | .str s => some (strRows s)
  | x => rowsOf H x

theorem src_flat {P : Program} {c : Cx} {H : Hp} (s : Sim c H) {x : AV} {X : Value} (hX : Rel c x X) {rows : List (List AV)} (h : srcRows H x = some rows) {sz : Nat} (hsz : lenOk sz rows = true) (h0 : sz ≠ 0) (h1 : ∀ b, x = .str b → sz = 1) :
    ∃ vs, FlatRows c vs sz rows ∧ (∀ w, (Builtin.lenOf X).run P w = .ok rows.length w) ∧ ∀ (m : Nat) (w : World), m ≤ rows.length → (∀ a, w.cell? a = c.w.cell? a) → (Builtin.firstCells sz m X).run P w = .ok (vs.take (m * sz)).toArray w := by
  by_cases hs : ∃ b, x = .str b
  · obtain ⟨b, rfl⟩ := hs
    cases h1 b rfl
    cases h
    cases hX
    obtain ⟨vs, f1, f2, f3⟩ := str_flat (P := P) (c := c) b
    exact ⟨vs, f1, f2, fun m w hm _ => f3 m w hm⟩
  · have h' : rowsOf H x = some rows := by
      cases x <;> first | exact h | exact absurd ⟨_, rfl⟩ hs
    exact (rows_sound s hX h' hsz).flat h0

/-- Old rows and new ones in a block of their own. -/
theorem append_grow {P : Program} {c : Cx} {H : Hp} (s : Sim c H) {t t2 ty e : TypeId} {d2 : TypeDesc} {sz by_ : Nat} {zc : List AV} (hu : P.underlying t = some (.slice e)) (hu2 : P.underlying t2 = some d2) (hd2 : ∀ k, d2 ≠ .int k)
    (hsz : szOf P e = some sz) (hby : byOf P e = some by_) (hzc : zcOf P e = some zc) (hz : zc.length = sz) (h0 : sz ≠ 0) {base : Option Addr} {X : Value} {n cap : Nat} {rows news : List (List AV)} {vs us : List Value}
    (hvs : FlatRows c vs sz rows) (hus : FlatRows c us sz news) (hold : ∀ w : World, (∀ a, w.cell? a = c.w.cell? a) → (Builtin.firstCells sz rows.length (.slice base rows.length cap)).run P w = .ok vs.toArray w)
    (hlen : ∀ w, (Builtin.lenOf X).run P w = .ok news.length w) (hnew : ∀ w : World, (∀ a, w.cell? a = c.w.cell? a) → (Builtin.firstCells sz news.length X).run P w = .ok us.toArray w)
    (hcap : cap < rows.length + news.length) (hb : (rows.length + news.length) * by_ ≤ 140737488355328) (hb0 : by_ ≠ 0) :
    ∃ V c', (Builtin.append_ #[t, t2] ty #[.slice base rows.length cap, X]).run P c.w = .ok V c'.w ∧ To c H c' (H ++ [.arr e sz (rows ++ news)]) ∧ Rel c' (.row false H.length 0 (rows.length + news.length)) V := by
  obtain ⟨ti, t1, t3⟩ := run_by hby
  obtain ⟨Z, z1, z2, z3⟩ := run_zc hzc c.w.drew
  have hd : ∀ a, c.w.drew.cell? a = c.w.cell? a := fun a => rfl
  obtain ⟨need, hn⟩ : ∃ m, m = rows.length + news.length := ⟨_, rfl⟩
  rw [← hn] at hcap hb ⊢
  obtain ⟨nc, hncd⟩ : ∃ m, m = (Question.appendCap need cap e).cut (c.w.tape c.w.drawn (.appendCap need cap e)) := ⟨_, rfl⟩
  have hnc : need ≤ nc := by simp only [hncd, Question.cut]; omega
  have hfits := growslice_fits (old := cap) (need := need) hcap hb
  have hneed : need ≤ 140737488355328 := by
    have h1 : need * 1 ≤ need * by_ := Nat.mul_le_mul_left need (by omega)
    omega
  have hflat := hvs.append hus
  let rest := Builtin.zeroCells Z.cells (nc - need)
  have cells_eq : (vs.toArray ++ us.toArray ++ rest) = ((vs ++ us) ++ rest.toList).toArray := by
    apply Array.ext'
    simp
  have T0 : To c H { c with w := c.w.drew } H := To.world s rfl rfl rfl rfl
  have T1 := new_rows T0.sim (cells := ((vs ++ us) ++ rest.toList).toArray) e (((hflat.mono T0.ext.mono).at_ (rest := rest.toList)))
  have hsize : ((vs ++ us) ++ rest.toList).toArray.size = nc * sz := by
    simp only [List.size_toArray, List.length_append, Array.length_toList, hvs.1, hus.1, rest, size_zeroCells, z2, hz, ← Nat.add_mul, ← hn]
    congr 1
    omega
  refine ⟨.slice (some ⟨c.w.heap.size, 0, none⟩) need nc, _, ?_, T0.trans s T1, ?_⟩
  · have hnz : ∀ (k : IntKind), d2 ≠ .int k := hd2
    have hzeros : (match d2 with | .int _ => true | _ => false) = false := by
      cases d2 <;> first | rfl | exact absurd rfl (hd2 _)
    have big : ¬ ((need : Int) > IntKind.i64.max) := by
      have : IntKind.i64.max = 9223372036854775807 := by decide
      omega
    have nsc : ¬ (Builtin.nextslicecap need cap * by_ > 2 ^ 48) := by
      have : (2 : Nat) ^ 48 = 281474976710656 := by decide
      omega
    have hnf : ¬ (need ≤ cap) := by omega
    have frc : (Question.appendCap need cap e).forced = false := rfl
    have dr : ({ c.w with drawn := c.w.drawn + 1 } : World) = c.w.drew := rfl
    simp only [Builtin.append_, Sem.run_bind, List.getElem?_toArray, List.getElem?_cons_zero, List.getElem?_cons_succ, run_un hu, run_un hu2, Result.andThen_ok, run_sz hsz, Sem.run_pure, hzeros, Bool.false_eq_true, if_false, hlen]
    rw [← hn, if_neg hnf]
    simp only [Sem.run_bind, t1, t3, Result.andThen_ok]
    rw [if_neg (fun h => big h.1)]
    simp only [Sem.run_bind, t1, t3, Result.andThen_ok]
    rw [if_neg nsc]
    simp only [Sem.run_bind, run_choose, frc, Bool.false_eq_true, if_false, Result.andThen_ok, t1, run_askRoom, ← hncd, dr, hold _ hd, Bool.not_false, if_true, hnew _ hd, z1, cells_eq, rest]
    simp [newRow, World.alloc_eq]
  · refine .row _ H.length 0 _ ⟨c.w.heap.size, 0, sz, _⟩ 0 nc (updρ_self _ _ _) (by simp) hnc (fun h => by cases h) ?_
    rw [hsize]
    simp

/-- A row that goes on in its block under a new name; the old name is dead. -/
theorem To.move {c : Cx} {H : Hp} (s : Sim c H) {l sz : Nat} {rows0 rows' : List (List AV)} {cl : CL} {T0 : TypeId} (hl : H[l]? = some (.arr T0 sz rows0)) (hr : c.ρ l = some cl) (o : Nat) {w' : World} {cells' : Array Value} {T : TypeId}
    (hsz : w'.heap.size = c.w.heap.size) (hb : w'.heap[cl.blk]? = some (.cells cells' T (0, 0))) (hlim : cells'.size = cl.lim) (hh : ∀ b, b ≠ cl.blk → w'.heap[b]? = c.w.heap[b]?) (h1 : w'.os = c.w.os) (h2 : w'.tape = c.w.tape) (h3 : w'.output = c.w.output)
    (ho : ∀ c' : Cx, Mono c c' → RowsAt c' cells' o sz rows') :
    To c H { c with w := w', ρ := updρ c.ρ H.length ⟨cl.blk, o, sz, cl.lim⟩ } (H.set l .dead ++ [.arr T sz rows']) := by
  obtain ⟨cl0, cells, e1, e2, e3, e4, e5, e6, e7⟩ := s.obj l _ hl
  rw [hr] at e1
  cases e1
  have hlen : l < H.length := (List.getElem?_eq_some_iff.1 hl).1
  have hlv : live H l := ⟨_, hl, rfl⟩
  have hlt : cl.blk < c.w.heap.size := (Array.getElem?_eq_some_iff.1 e3).1
  have hold : ∀ k, k < H.length → k ≠ l → (H.set l .dead ++ [.arr T sz rows'])[k]? = H[k]? := fun k hk hne => by
    rw [List.getElem?_append_left (by simpa using hk), List.getElem?_set_ne (Ne.symm hne)]
  have hdead : (H.set l .dead ++ [.arr T sz rows'])[l]? = some .dead := by
    rw [List.getElem?_append_left (by simpa using hlen), List.getElem?_set_self hlen]
  have hnew : (H.set l .dead ++ [.arr T sz rows'])[H.length]? = some (.arr T sz rows') := by
    rw [List.getElem?_append_right (by simp)]
    simp
  have m : Mono c { c with w := w', ρ := updρ c.ρ H.length ⟨cl.blk, o, sz, cl.lim⟩ } := by
    refine ⟨fun _ h => h, fun _ h => h, fun k cl' h => ?_, fun b h => hh b (fun e => by subst e; exact h.elim e5 e6)⟩
    have : k ≠ H.length := fun e => by rw [e, s.fresh _ (Nat.le_refl _)] at h; cases h
    simp [updρ, this, h]
  have lv : ∀ k, live (H.set l .dead ++ [.arr T sz rows']) k → (k = H.length ∧ True) ∨ (k < H.length ∧ k ≠ l ∧ live H k) := fun k ⟨o2, h, hv2⟩ => by
    by_cases hk : k < H.length
    · by_cases e : k = l
      · subst e
        rw [hdead] at h
        cases h
        cases hv2
      · rw [hold k hk e] at h
        exact .inr ⟨hk, e, o2, h, hv2⟩
    · have := (List.getElem?_eq_some_iff.1 h).1
      simp at this
      exact .inl ⟨by omega, trivial⟩
  have oldρ : ∀ k, k < H.length → updρ c.ρ H.length ⟨cl.blk, o, sz, cl.lim⟩ k = c.ρ k := fun k hk => by simp [updρ]; omega
  refine ⟨⟨m, by simp [hsz], fun b hb hn => hh b (fun e => hn ⟨l, cl, hlv, hr, e.symm⟩), fun _ h => .inl h, fun _ => Iff.rfl, fun k cl' h => ?_, h1, h2, h3⟩,
    ⟨fun b hb => by simp only [hsz]; exact s.bound b hb, fun b hb => by simp only [hsz]; exact s.boundB b hb, fun k o2 h => ?_, fun a b c1 c2 ha hb2 hca hcb hab => ?_, fun k hk => ?_⟩, by simp, fun k hk h => ?_⟩
  · by_cases e : k = H.length
    · subst e
      simp [updρ] at h
      subst h
      exact .inr (.inr ⟨l, cl, hlv, hr, rfl⟩)
    · simp [updρ, e] at h
      exact .inl h
  · by_cases hk : k < H.length
    · by_cases e : k = l
      · subst e
        rw [hdead] at h
        cases h
        trivial
      · rw [hold k hk e] at h
        refine (s.obj k o2 h).keep m (fun _ _ _ h => h) (fun _ h => h) (fun cl2 hr2 hv2 => hh _ (fun e2 => e (s.inj k l cl2 cl (live_of h hv2) hlv hr2 hr e2)))
    · have := (List.getElem?_eq_some_iff.1 h).1
      simp at this
      have e : k = H.length := by omega
      subst e
      rw [hnew] at h
      cases h
      exact ⟨⟨cl.blk, o, sz, cl.lim⟩, cells', updρ_self _ _ _, rfl, hb, hlim, e5, e6, ho _ m⟩
  · have key : ∀ k cl', live (H.set l .dead ++ [.arr T sz rows']) k → updρ c.ρ H.length ⟨cl.blk, o, sz, cl.lim⟩ k = some cl' → cl'.blk = cl.blk → k = H.length := fun k cl' hk hρ' hblk => by
      rcases lv k hk with ⟨h, _⟩ | ⟨h4, h5, h6⟩
      · exact h
      · rw [oldρ k h4] at hρ'
        exact absurd (s.inj k l cl' cl h6 hlv hρ' hr hblk) h5
    rcases lv a ha with ⟨rfl, _⟩ | ⟨h4, h5, h6⟩
    · simp [updρ] at hca
      subst hca
      exact (key b c2 hb2 hcb hab.symm).symm
    · rcases lv b hb2 with ⟨rfl, _⟩ | ⟨k4, k5, k6⟩
      · simp [updρ] at hcb
        subst hcb
        exact key a c1 ha hca hab
      · replace hca := (oldρ a h4).symm.trans hca
        replace hcb := (oldρ b k4).symm.trans hcb
        exact s.inj a b c1 c2 h6 k6 hca hcb hab
  · simp at hk
    have e : k ≠ H.length := by omega
    simp [updρ, e]
    exact s.fresh k (by omega)
  · rcases lv k h with ⟨h, _⟩ | ⟨_, _, h6⟩
    · omega
    · exact h6

theorem To.kill {c c' : Cx} {H H' : Hp} (t : To c H c' H') (l : Nat) : To c H c' (H'.set l .dead) := by
  have lv : ∀ k, live (H'.set l .dead) k → live H' k := fun k ⟨o2, h, hv⟩ => by
    by_cases e : l = k
    · subst e
      have hl : l < H'.length := by have := (List.getElem?_eq_some_iff.1 h).1; simpa using this
      rw [List.getElem?_set_self hl] at h
      cases h
      cases hv
    · rw [List.getElem?_set_ne e] at h
      exact ⟨o2, h, hv⟩
  refine ⟨t.ext, ⟨t.sim.bound, t.sim.boundB, fun k o h => ?_, fun a b c1 c2 ha hb => t.sim.inj a b c1 c2 (lv a ha) (lv b hb), fun k hk => t.sim.fresh k (by simpa using hk)⟩, by simpa using t.len, fun k hk h => t.liv k hk (lv k h)⟩
  by_cases e : l = k
  · subst e
    have hl : l < H'.length := by have := (List.getElem?_eq_some_iff.1 h).1; simpa using this
    rw [List.getElem?_set_self hl] at h
    cases h
    trivial
  · rw [List.getElem?_set_ne e] at h
    exact t.sim.obj k o h

/-- append where there is room: the cells behind the end are written. -/
theorem append_room {P : Program} {c : Cx} {H : Hp} (s : Sim c H) {t t2 ty e : TypeId} {d2 : TypeDesc} {sz : Nat} (hu : P.underlying t = some (.slice e)) (hu2 : P.underlying t2 = some d2) (hd2 : ∀ k, d2 ≠ .int k)
    (hsz : szOf P e = some sz) (h0 : sz ≠ 0) {X : Value} {l i n : Nat} {rows0 news : List (List AV)} {us : List Value} {cl : CL} {o cap : Nat} (hl : H[l]? = some (.arr e sz rows0)) (hr : c.ρ l = some cl)
    (ho : o = cl.base + i * cl.sz) (hi : i + n ≤ rows0.length) (hlim : o + cap * cl.sz = cl.lim)
    (hus : FlatRows c us sz news) (hlen : ∀ w, (Builtin.lenOf X).run P w = .ok news.length w) (hnew : ∀ w : World, (∀ a, w.cell? a = c.w.cell? a) → (Builtin.firstCells sz news.length X).run P w = .ok us.toArray w)
    (hcap : n + news.length ≤ cap) :
    ∃ V c', (Builtin.append_ #[t, t2] ty #[.slice (some ⟨cl.blk, o, none⟩) n cap, X]).run P c.w = .ok V c'.w ∧ To c H c' (H.set l .dead ++ [.arr e sz ((rows0.drop i).take n ++ news)]) ∧ Rel c' (.row false H.length 0 (n + news.length)) V := by
  obtain ⟨cl0, cells, e1, e2, e3, e4, e5, e6, e7⟩ := s.obj l _ hl
  rw [hr] at e1
  cases e1
  subst e2
  have hmul : (n + news.length) * cl.sz ≤ cap * cl.sz := Nat.mul_le_mul_right _ hcap
  rw [Nat.add_mul] at hmul
  obtain ⟨w', cells', hrun, f1, f2, f3, f4, f5, f6, f7, f8⟩ := run_put (P := P) (o := o + n * cl.sz) e3 (vs := us) (by rw [hus.1]; omega) (hus.one h0)
  refine ⟨.slice (some ⟨cl.blk, o, none⟩) (n + news.length) cap, _, ?_, To.move s (rows' := (rows0.drop i).take n ++ news) hl hr o f4 f1 (f2.trans e4) f5 f6 f7 f8 (fun c' m q r hq => ?_), ?_⟩
  · have hzeros : (match d2 with | .int _ => true | _ => false) = false := by
      cases d2 <;> first | rfl | exact absurd rfl (hd2 _)
    simp only [Builtin.append_, Sem.run_bind, List.getElem?_toArray, List.getElem?_cons_zero, List.getElem?_cons_succ, run_un hu, run_un hu2, Result.andThen_ok, run_sz hsz, Sem.run_pure, hzeros, Bool.false_eq_true, if_false, hlen]
    rw [if_pos hcap]
    simp only [Sem.run_bind, Bool.not_false, if_true, hnew c.w (fun _ => rfl), Result.andThen_ok, add_spot, hrun, Sem.run_pure]
  · have hn : ((rows0.drop i).take n).length = n := by simp; omega
    by_cases hqn : q < n
    · rw [List.getElem?_append_left (by omega), List.getElem?_take, if_pos hqn, List.getElem?_drop] at hq
      obtain ⟨g1, g2⟩ := e7 _ r hq
      refine ⟨g1, fun j x hx => ?_⟩
      have hj : j < cl.sz := by rw [← g1]; exact (List.getElem?_eq_some_iff.1 hx).1
      obtain ⟨V, v1, v2, v3⟩ := g2 j x hx
      refine ⟨V, ?_, v2, v3.mono m⟩
      have hlt := mul_lt_row hqn hj
      rw [f3, if_neg (by omega), ← v1, ho, Nat.add_mul]
      congr 1
      omega
    · rw [List.getElem?_append_right (by omega), hn] at hq
      obtain ⟨g1, g2⟩ := hus.2 _ r hq
      refine ⟨g1, fun j x hx => ?_⟩
      obtain ⟨V, v1, v2, v3⟩ := g2 j x hx
      refine ⟨V, ?_, v2, v3.mono m⟩
      have e : q * cl.sz = n * cl.sz + (q - n) * cl.sz := by rw [← Nat.add_mul]; congr 1; omega
      have hv := (List.getElem?_eq_some_iff.1 v1).1
      rw [f3, if_pos (by omega), ← v1]
      congr 1
      omega
  · have hmul' : (n + news.length) * cl.sz ≤ cap * cl.sz := Nat.mul_le_mul_right _ hcap
    exact .row _ H.length 0 _ ⟨cl.blk, o, cl.sz, cl.lim⟩ o cap (updρ_self _ _ _) (by simp) hcap (fun h => by cases h) hlim

def isInt : TypeDesc → Bool
  | .int _ => true
  | _ => false
def AV.isSlice : AV → Bool
  | .nils | .list .. | .row .. | .sub .. => true
  | _ => false
def AV.isStr : AV → Bool
  | .str _ => true
  | _ => false

def vappendF (P : Program) (fz : List (List AV) → Option (Hp × List (List AV))) (H : Hp) (t t2 : TypeId) (s x : AV) : Option (AV × Hp) :=
  match elemAt P t, P.underlying t2 with
  | some (none, e, sz), some d2 => if isInt d2 = true then none else match zcOf P e, byOf P e, srcRows H x with
    | some zc, some by_, some rows => if zc.length = sz ∧ sz ≠ 0 ∧ by_ ≠ 0 ∧ lenOk sz rows = true ∧ (x.isStr = true → sz = 1) ∧ s.isSlice = true then
        if rows.length = 0 then some (s, H) else match fz rows with
        | some (H1, news) => match s with
          | .nils => if news.length * by_ ≤ 140737488355328 then some (.row false H1.length 0 news.length, H1 ++ [.arr e sz news]) else none
          | .list .tight old => if lenOk sz old = true ∧ (old.length + news.length) * by_ ≤ 140737488355328 then some (.row false H1.length 0 (old.length + news.length), H1 ++ [.arr e sz (old ++ news)]) else none
          | .row true l i n => match rowsOf H1 (.row true l i n) with
            | some old => if lenOk sz old = true ∧ (old.length + news.length) * by_ ≤ 140737488355328 then some (.row false H1.length 0 (old.length + news.length), H1 ++ [.arr e sz (old ++ news)]) else none
            | none => none
          | .row false l i n => match H1[l]? with
            | some (.arr T' sz' rows0) => if (T' = e ∧ sz' = sz) ∧ i + n ≤ rows0.length ∧ (n + news.length) * by_ ≤ 140737488355328 then
                some (.row false H1.length 0 (n + news.length), H1.set l .dead ++ [.arr e sz ((rows0.drop i).take n ++ news)]) else none
            | _ => none
          | _ => none
        | none => none
      else none
    | _, _, _ => none
  | _, _ => none

/-- What is appended is frozen. -/
def vappend (P : Program) (H : Hp) (t t2 : TypeId) (s x : AV) : Option (AV × Hp) := vappendF P (frzRows H) H t t2 s x
/-- What is appended stays as it is. -/
def vappendR (P : Program) (H : Hp) (t t2 : TypeId) (s x : AV) : Option (AV × Hp) := vappendF P (fun rows => some (H, rows)) H t t2 s x

theorem set_dead_len {H : Hp} {l : Nat} {o : VO} : (H.set l o).length = H.length := by simp

theorem SliceAt.lenOf {P : Program} {c : Cx} {V : Value} {sz : Nat} {rows : List (List AV)} (h : SliceAt c V sz rows) : ∃ base cap, V = .slice base rows.length cap := by
  rcases h with ⟨base, cap, rfl, rfl⟩ | ⟨b, o, cap, rfl, _⟩
  · exact ⟨_, _, rfl⟩
  · exact ⟨_, _, rfl⟩

theorem appendF_sound {P : Program} {c : Cx} {H H' : Hp} (s : Sim c H) {fz : List (List AV) → Option (Hp × List (List AV))} (hfz : ∀ {vs : List Value} {sz : Nat} {rows news : List (List AV)} {H1 : Hp}, FlatRows c vs sz rows → fz rows = some (H1, news) → (∃ c', Still c H c' H1 ∧ FlatRows c' vs sz news) ∧ news.length = rows.length)
    {t t2 ty : TypeId} {x y v : AV} {X Y : Value} (hX : Rel c x X) (hY : Rel c y Y) (h : vappendF P fz H t t2 x y = some (v, H')) :
    Yields P c H (Builtin.append_ #[t, t2] ty #[X, Y]) v H' := by
  unfold vappendF at h
  split at h
  · rename_i e sz d2 he hu2
    obtain ⟨hsz, hu⟩ := elemAt_of he
    have hu := (hu.resolve_right (fun h => by obtain ⟨_, h, _⟩ := h; cases h)).2
    split at h
    · cases h
    · rename_i hd2
      have hd2' : ∀ k, d2 ≠ .int k := fun k e => by subst e; exact hd2 rfl
      split at h
      · rename_i zc by_ rows hzc hby hsrc
        split at h
        · rename_i hc
          obtain ⟨c1, c2, c3, c4, c5, c6⟩ := hc
          obtain ⟨vs, g1, g2, g3⟩ := src_flat (P := P) s hY hsrc c4 c2 (fun b e => c5 (by rw [e]; rfl))
          split at h
          · rename_i hnil
            cases h
            have hzeros : (match d2 with | .int _ => true | _ => false) = false := by
              cases d2 <;> first | rfl | exact absurd rfl (hd2' _)
            have g3' := g3 0 c.w (by omega) (fun _ => rfl)
            simp only [Nat.zero_mul, List.take_zero] at g3'
            have fin : ∀ base n cap, X = .slice base n cap → n ≤ cap → Yields P c H (Builtin.append_ #[t, t2] ty #[X, Y]) x H := by
              intro base n cap e hle
              subst e
              refine Yields.same s (V := .slice base n cap) ?_ hX
              simp only [Builtin.append_, Sem.run_bind, List.getElem?_toArray, List.getElem?_cons_zero, List.getElem?_cons_succ, run_un hu, run_un hu2, Result.andThen_ok, run_sz hsz, Sem.run_pure, hzeros, Bool.false_eq_true, if_false, g2, hnil, Nat.add_zero]
              rw [if_pos hle]
              simp only [Sem.run_bind, Bool.not_false, if_true, g3', Result.andThen_ok]
              cases base <;> simp [storeCells]
            cases hX with
            | nils => exact fin _ _ _ rfl (Nat.le_refl _)
            | list _ _ _ _ _ cap _ _ _ _ hcap _ _ _ _ _ => exact fin _ _ _ rfl hcap
            | row _ _ _ _ _ _ cap _ _ hn _ _ => exact fin _ _ _ rfl hn
            | sub _ _ _ _ _ _ _ cap _ _ hn => exact fin _ _ _ rfl hn
            | _ => cases c6
          · rename_i hne
            split at h
            · rename_i H1 news hf
              obtain ⟨⟨c', st, hus⟩, hnl⟩ := hfz g1 hf
              have hw := st.w
              have hX' := hX.mono st.to_.ext.mono
              have s' := st.to_.sim
              have glen : ∀ w, (Builtin.lenOf Y).run P w = .ok news.length w := fun w => by rw [hnl]; exact g2 w
              have gnew : ∀ w : World, (∀ a, w.cell? a = c'.w.cell? a) → (Builtin.firstCells sz news.length Y).run P w = .ok vs.toArray w := fun w hwc => by
                rw [hnl, g3 rows.length w (Nat.le_refl _) (fun a => by rw [hwc, hw]), ← g1.1, List.take_length]
              have out : ∀ {v' : AV} {Hx : Hp}, Yields P c' H1 (Builtin.append_ #[t, t2] ty #[X, Y]) v' Hx → Yields P c H (Builtin.append_ #[t, t2] ty #[X, Y]) v' Hx := by
                rintro v' Hx ⟨V, c2, k1, k2, k3⟩
                exact ⟨V, c2, by rw [← hw]; exact k1, st.to_.trans s k2, k3⟩
              have grow : ∀ {old : List (List AV)}, SliceAt c' X sz old → (∀ base cap, X = .slice base old.length cap → cap = old.length) → (old.length + news.length) * by_ ≤ 140737488355328 →
                  Yields P c' H1 (Builtin.append_ #[t, t2] ty #[X, Y]) (.row false H1.length 0 (old.length + news.length)) (H1 ++ [.arr e sz (old ++ news)]) := by
                intro old hs hcap hbytes
                obtain ⟨base, cap, rfl⟩ := SliceAt.lenOf (P := P) hs
                obtain ⟨os, o1, o2, o3⟩ := hs.flat (P := P) c2
                have hc := hcap base cap rfl
                exact append_grow s' hu hu2 hd2' hsz hby hzc c1 c2 (n := 0) o1 hus (fun w hwc => by rw [o3 _ w (Nat.le_refl _) hwc, ← o1.1, List.take_length]) glen gnew (by omega) hbytes c3
              split at h
              · split at h
                · rename_i hb
                  cases h
                  cases hX'
                  have := grow (old := []) (.inl ⟨none, 0, rfl, rfl⟩) (fun base cap e => by cases e; rfl) (by simpa using hb)
                  simp only [List.length_nil, Nat.zero_add, List.nil_append] at this
                  exact out this
                · cases h
              · rename_i old
                split at h
                · rename_i hb
                  cases h
                  refine out (grow (rows_sound s' hX' rfl hb.1) (fun base cap e => ?_) hb.2)
                  cases hX' with
                  | list _ _ _ _ _ cap' _ _ _ _ hcap ht _ _ _ _ => cases e; exact ht rfl
                · cases h
              · rename_i l i n
                split at h
                · rename_i old hold
                  split at h
                  · rename_i hb
                    cases h
                    have hs := rows_sound s' hX' hold hb.1
                    refine out (grow hs (fun base cap e => ?_) hb.2)
                    cases hX' with
                    | row _ _ _ _ cl o cap' hρ ho hn ht hl => cases e; exact ht rfl
                  · cases h
                · cases h
              · rename_i l i n
                split at h
                · rename_i T' sz' rows0 hl
                  split at h
                  · rename_i hb
                    obtain ⟨⟨b0, b1⟩, b2, b3⟩ := hb
                    subst b0
                    subst b1
                    cases h
                    have hXr := hX'
                    cases hX' with
                    | row _ _ _ _ cl o cap hρ ho hn ht hlim =>
                      have hclsz : cl.sz = sz' := obj_sz s' (.inl ⟨_, hl⟩) hρ
                      by_cases hroom : n + news.length ≤ cap
                      · have hcap0 : cap ≠ 0 := by omega
                        exact out (append_room s' hu hu2 hd2' hsz c2 hl hρ ho b2 hlim hus glen gnew hroom)
                      · -- a new block: the old name dies all the same
                        have hlen0 : ((rows0.drop i).take n).length = n := by simp; omega
                        have hold : rowsOf H1 (.row false l i n) = some ((rows0.drop i).take n) := by
                          simp only [rowsOf, hl]
                          rw [if_pos b2]
                        have hlo : lenOk sz' ((rows0.drop i).take n) = true := by
                          obtain ⟨cl0, cells, e1, e2, e3, e4, e5, e6, e7⟩ := s'.obj l _ hl
                          refine List.all_eq_true.2 (fun r hr => ?_)
                          obtain ⟨q, hq⟩ := List.mem_iff_getElem?.1 (List.mem_of_mem_drop (List.mem_of_mem_take hr))
                          have := (e7 q r hq).1
                          simpa using this
                        have hs := rows_sound s' hXr hold hlo
                        obtain ⟨os, o1, o2, o3⟩ := hs.flat (P := P) c2
                        have g := append_grow (ty := ty) s' hu hu2 hd2' hsz hby hzc c1 c2 (n := 0) (base := some ⟨cl.blk, o, none⟩) (X := Y) (cap := cap) o1 hus (fun w hwc => by have := o3 _ w (Nat.le_refl _) hwc; rw [hlen0] at this ⊢; rw [this, ← hlen0, ← o1.1, List.take_length]) glen gnew (by omega) (by rw [hlen0]; exact b3) c3
                        rw [hlen0] at g
                        obtain ⟨V, c2', k1, k2, k3⟩ := g
                        -- drop the old name
                        have hlt : l < H1.length := (List.getElem?_eq_some_iff.1 hl).1
                        have kk := k2.kill l
                        rw [List.set_append_left _ _ hlt] at kk
                        exact out ⟨V, c2', k1, kk, k3⟩
                  · cases h
                · cases h
              · cases h
            · cases h
        · cases h
      · cases h
  · cases h

theorem append_sound {P : Program} {c : Cx} {H H' : Hp} (s : Sim c H) {t t2 ty : TypeId} {x y v : AV} {X Y : Value} (hX : Rel c x X) (hY : Rel c y Y) (h : vappend P H t t2 x y = some (v, H')) :
    Yields P c H (Builtin.append_ #[t, t2] ty #[X, Y]) v H' :=
  appendF_sound s (fun g1 hf => ⟨frzFlat s g1 hf, by have := congrArg List.length (frzRows_len hf); simpa using this⟩) hX hY h

theorem appendR_sound {P : Program} {c : Cx} {H H' : Hp} (s : Sim c H) {t t2 ty : TypeId} {x y v : AV} {X Y : Value} (hX : Rel c x X) (hY : Rel c y Y) (h : vappendR P H t t2 x y = some (v, H')) :
    Yields P c H (Builtin.append_ #[t, t2] ty #[X, Y]) v H' :=
  appendF_sound s (fun g1 hf => by cases hf; exact ⟨⟨c, Still.refl s, g1⟩, rfl⟩) hX hY h
end Go.Vi
end
section
set_option autoImplicit false
set_option linter.unusedVariables false
set_option linter.unusedSimpArgs false
namespace Go.Vi

/-- Several rows are written. -/
theorem RowsAt.putRows {c : Cx} {cells cells' : Array Value} {base sz i m : Nat} {rows news : List (List AV)} {vs : List Value} (h : RowsAt c cells base sz rows) (hf : FlatRows c vs sz news) (hm : m ≤ news.length) (hi : i + m ≤ rows.length)
    (hc : ∀ j, cells'[j]? = if base + i * sz ≤ j ∧ j < base + i * sz + m * sz then vs[j - (base + i * sz)]? else cells[j]?) :
    RowsAt c cells' base sz (rows.take i ++ news.take m ++ rows.drop (i + m)) := by
  intro q r hr
  have h1 : (rows.take i).length = i := by simp; omega
  have h2 : (news.take m).length = m := by simp; omega
  rw [List.append_assoc] at hr
  have old : rows[q]? = some r → (q < i ∨ i + m ≤ q) → r.length = sz ∧ ∀ (j : Nat) (x : AV), r[j]? = some x → ∃ V, cells'[base + q * sz + j]? = some V ∧ V.oneCell' = true ∧ Rel c x V := by
    intro hr hq
    obtain ⟨g1, g2⟩ := h q r hr
    refine ⟨g1, fun j x hx => ?_⟩
    have hj : j < sz := by rw [← g1]; exact (List.getElem?_eq_some_iff.1 hx).1
    obtain ⟨V, v1, v2, v3⟩ := g2 j x hx
    refine ⟨V, ?_, v2, v3⟩
    rw [hc, if_neg]
    · exact v1
    · rcases hq with hq | hq
      · have := mul_lt_row hq hj
        omega
      · have := Nat.mul_le_mul_right sz hq
        rw [Nat.add_mul] at this
        omega
  by_cases hq : q < i
  · rw [List.getElem?_append_left (by omega), List.getElem?_take, if_pos hq] at hr
    exact old hr (.inl hq)
  · rw [List.getElem?_append_right (by omega), h1] at hr
    by_cases hq2 : q < i + m
    · rw [List.getElem?_append_left (by omega), List.getElem?_take, if_pos (by omega)] at hr
      obtain ⟨g1, g2⟩ := hf.2 _ r hr
      refine ⟨g1, fun j x hx => ?_⟩
      have hj : j < sz := by rw [← g1]; exact (List.getElem?_eq_some_iff.1 hx).1
      obtain ⟨V, v1, v2, v3⟩ := g2 j x hx
      refine ⟨V, ?_, v2, v3⟩
      have e : q * sz = i * sz + (q - i) * sz := by rw [← Nat.add_mul]; congr 1; omega
      have hlt := mul_lt_row (show q - i < m by omega) hj
      rw [hc, if_pos (by omega), ← v1]
      congr 1
      omega
    · rw [List.getElem?_append_right (by omega), h2, List.getElem?_drop] at hr
      refine old ?_ (.inr (by omega))
      rw [← hr]
      congr 1
      omega

theorem FlatRows.cells {c : Cx} {sz : Nat} : ∀ {rows : List (List AV)} {vs : List Value}, FlatRows c vs sz rows → rows.flatten.length = vs.length ∧ ∀ (j : Nat) (x : AV), rows.flatten[j]? = some x → ∃ V, vs[j]? = some V ∧ V.oneCell' = true ∧ Rel c x V
  | [], vs, h => ⟨by have := h.1; simp at this; simp [this], fun j x hx => by simp at hx⟩
  | r :: rs, vs, h => by
    have hl := h.1
    simp only [List.length_cons, Nat.add_mul, Nat.one_mul] at hl
    have h0 := h.2 0 r (by simp)
    have ht : FlatRows c (vs.drop sz) sz rs := ⟨by rw [List.length_drop]; omega, fun i r' hr' => by
      obtain ⟨g1, g2⟩ := h.2 (i + 1) r' (by simpa using hr')
      refine ⟨g1, fun j x hx => ?_⟩
      obtain ⟨U, u1, u2, u3⟩ := g2 j x hx
      refine ⟨U, ?_, u2, u3⟩
      rw [List.getElem?_drop, ← u1, Nat.add_mul]
      congr 1
      omega⟩
    obtain ⟨i1, i2⟩ := FlatRows.cells ht
    rw [List.length_drop] at i1
    refine ⟨by rw [List.flatten_cons, List.length_append, i1, h0.1]; omega, fun j x hx => ?_⟩
    rw [List.flatten_cons] at hx
    by_cases hj : j < r.length
    · rw [List.getElem?_append_left hj] at hx
      obtain ⟨U, u1, u2, u3⟩ := h0.2 j x hx
      exact ⟨U, by simpa using u1, u2, u3⟩
    · rw [List.getElem?_append_right (by omega)] at hx
      obtain ⟨U, u1, u2, u3⟩ := i2 _ x hx
      refine ⟨U, ?_, u2, u3⟩
      rw [List.getElem?_drop] at u1
      rw [← u1]
      congr 1
      have := h0.1
      omega

theorem FlatRows.take {c : Cx} {vs : List Value} {sz m : Nat} {rows : List (List AV)} (h : FlatRows c vs sz rows) (hm : m ≤ rows.length) : FlatRows c (vs.take (m * sz)) sz (rows.take m) := by
  have hle : m * sz ≤ rows.length * sz := Nat.mul_le_mul_right sz hm
  refine ⟨by rw [List.length_take, List.length_take, h.1, Nat.min_eq_left hm, Nat.min_eq_left hle], fun i r hr => ?_⟩
  rw [List.getElem?_take] at hr
  split at hr
  · rename_i hi
    obtain ⟨g1, g2⟩ := h.2 i r hr
    refine ⟨g1, fun j x hx => ?_⟩
    obtain ⟨U, u1, u2, u3⟩ := g2 j x hx
    refine ⟨U, ?_, u2, u3⟩
    have hj : j < sz := by rw [← g1]; exact (List.getElem?_eq_some_iff.1 hx).1
    rw [List.getElem?_take, if_pos (mul_lt_row hi hj)]
    exact u1
  · cases hr

def vcopy (P : Program) (H : Hp) (t : TypeId) (d x : AV) : Option (AV × Hp) :=
  match elemAt P t, srcRows H x with
  | some (none, e, sz), some rows => if lenOk sz rows = true ∧ sz ≠ 0 ∧ (x.isStr = true → sz = 1) then match d with
      | .nils => some (.int .i64 0, H)
      | .list _ old => if rows.length = 0 ∨ old.length = 0 then some (.int .i64 0, H) else none
      | .row _ l i n => match H[l]? with
        | some (.arr T sz' rows0) => if sz' = sz ∧ i + n ≤ rows0.length then
            some (.int .i64 (min rows.length n : Nat), H.set l (.arr T sz (rows0.take i ++ rows.take (min rows.length n) ++ rows0.drop (i + min rows.length n)))) else none
        | _ => none
      | .sub l i k es n => match H[l]? with
        | some (.arr T sz' rows0) => match rows0[i]? with
          | some r => if es = sz ∧ k + n * es ≤ r.length then
              some (.int .i64 (min rows.length n : Nat), H.set l (.arr T sz' (rows0.set i (setC r k (rows.take (min rows.length n)).flatten)))) else none
          | none => none
        | _ => none
      | _ => none
    else none
  | _, _ => none

theorem copy_run {P : Program} {w : World} {t t2 ty e : TypeId} {sz : Nat} (hu : P.underlying t = some (.slice e)) (hsz : szOf P e = some sz) {base : Option Addr} {n cap m : Nat} {Y : Value} {vs : List Value}
    (hlen : (Builtin.lenOf Y).run P w = .ok m w) (hf : (Builtin.firstCells sz (min m n) Y).run P w = .ok vs.toArray w) {w' : World} (hs : ∀ a, base = some a → (storeCells a vs 0).run P w = .ok () w') (hb : base = none → w' = w) :
    (Builtin.copy_ #[t, t2] ty #[.slice base n cap, Y]).run P w = .ok (.int .i64 (min m n : Nat)) w' := by
  simp only [Builtin.copy_, Sem.run_bind, List.getElem?_toArray, List.getElem?_cons_zero, List.getElem?_cons_succ, run_un hu, Result.andThen_ok, hlen, run_sz hsz]
  have e : Nat.min m n = min m n := rfl
  rw [e, hf]
  cases base with
  | none =>
    have := hb rfl
    subst this
    rfl
  | some a =>
    simp only [Result.andThen_ok, Sem.run_bind]
    rw [hs a rfl]
    rfl

theorem copy_sound {P : Program} {c : Cx} {H H' : Hp} (s : Sim c H) {t t2 ty : TypeId} {d x v : AV} {D X : Value} (hD : Rel c d D) (hX : Rel c x X) (h : vcopy P H t d x = some (v, H')) :
    Yields P c H (Builtin.copy_ #[t, t2] ty #[D, X]) v H' := by
  unfold vcopy at h
  split at h
  · rename_i e sz rows he hsrc
    obtain ⟨hsz, hu⟩ := elemAt_of he
    have hu := (hu.resolve_right (fun h => by obtain ⟨_, h, _⟩ := h; cases h)).2
    split at h
    · rename_i hc
      obtain ⟨c1, c2, c3⟩ := hc
      obtain ⟨vs, g1, g2, g3⟩ := src_flat (P := P) s hX hsrc c1 c2 (fun b e => c3 (by rw [e]; rfl))
      have hf : ∀ n, (Builtin.firstCells sz (min rows.length n) X).run P c.w = .ok (vs.take (min rows.length n * sz)).toArray c.w := fun n => g3 _ c.w (Nat.min_le_left _ _) (fun _ => rfl)
      split at h
      · cases h
        cases hD
        refine Yields.same s (V := .int .i64 0) ?_ (.int _ _)
        have := copy_run (P := P) (t2 := t2) (ty := ty) (base := none) (n := 0) (cap := 0) hu hsz (g2 c.w) (hf 0) (w' := c.w) (fun a h => by cases h) (fun _ => rfl)
        rw [this, Nat.min_zero]
        rfl
      · rename_i tg old
        split at h
        · rename_i h0
          cases h
          cases hD with
          | list _ _ b o sz' cap sp hsp F hb hc ht hs hv h1 h2 =>
            have hm : min rows.length old.length = 0 := by omega
            refine Yields.same s (V := .int .i64 0) ?_ (.int _ _)
            have := copy_run (P := P) (t2 := t2) (ty := ty) (base := some ⟨b, o, sp⟩) (n := old.length) (cap := cap) hu hsz (g2 c.w) (hf old.length) (w' := c.w) (fun a h => by cases h; rw [hm, Nat.zero_mul]; simp [storeCells]) (fun h => by cases h)
            rw [this, hm]
            rfl
        · cases h
      · rename_i tt l i n
        split at h
        · rename_i T sz' rows0 hl
          split at h
          · rename_i hcond
            obtain ⟨d1, d2⟩ := hcond
            subst d1
            cases h
            cases hD with
            | row _ _ _ _ cl o cap hρ ho hn ht hlim =>
              obtain ⟨cl0, cells, e1, e2, e3, e4, e5, e6, e7⟩ := s.obj l _ hl
              rw [hρ] at e1
              cases e1
              subst e2
              have hm1 : min rows.length n ≤ rows.length := Nat.min_le_left _ _
              have hm2 : min rows.length n ≤ n := Nat.min_le_right _ _
              have hvl : (vs.take (min rows.length n * cl.sz)).length = min rows.length n * cl.sz := by
                rw [List.length_take, g1.1]
                exact Nat.min_eq_left (Nat.mul_le_mul_right _ hm1)
              have one : ∀ v ∈ vs.take (min rows.length n * cl.sz), v.oneCell' = true := fun v hv => g1.one c2 v (List.mem_of_mem_take hv)
              by_cases h0 : min rows.length n = 0
              · have hset : H.set l (.arr T cl.sz (rows0.take i ++ rows.take (min rows.length n) ++ rows0.drop (i + min rows.length n))) = H := by
                  rw [h0, List.take_zero, List.append_nil, Nat.add_zero, List.take_append_drop]
                  obtain ⟨hi, hx⟩ := List.getElem?_eq_some_iff.1 hl
                  rw [← hx]
                  exact List.set_getElem_self hi
                rw [hset]
                refine Yields.same s (V := .int .i64 (min rows.length n : Nat)) ?_ (.int _ _)
                exact copy_run hu hsz (g2 c.w) (hf n) (fun a ha => by rw [h0, Nat.zero_mul]; simp [storeCells]) (fun _ => rfl)
              · have hcap : cap ≠ 0 := by omega
                have ho' := ho
                have hl2 := Nat.le_of_eq hlim
                have h3 : min rows.length n * cl.sz ≤ cap * cl.sz := Nat.mul_le_mul_right _ (by omega)
                obtain ⟨w', cells', hrun, f1, f2, f3, f4, f5, f6, f7, f8⟩ := run_put (P := P) (o := o) e3 (by rw [hvl]; omega) one
                refine ⟨.int .i64 (min rows.length n : Nat), { c with w := w' }, ?_, To.write s ⟨_, hl, rfl⟩ hρ _ f4 f5 f6 f7 f8 (fun m => ⟨cl, cells', hρ, rfl, f1, f2.trans e4, e5, e6, ?_⟩), .int _ _⟩
                · exact copy_run hu hsz (g2 c.w) (hf n) (fun a ha => by cases ha; exact hrun) (fun h => by cases h)
                · refine (e7.mono m).putRows (g1.mono m) hm1 (by omega) (fun j => ?_)
                  rw [f3, hvl, ho']
                  split
                  · rename_i hj
                    rw [List.getElem?_take, if_pos (by omega)]
                  · rfl
          · cases h
        · cases h
      · rename_i l i k es n
        split at h
        · rename_i T sz' rows0 hl
          split at h
          · rename_i r hr
            split at h
            · rename_i hcond
              obtain ⟨d1, d2⟩ := hcond
              subst d1
              cases h
              cases hD with
              | sub _ _ _ _ _ cl o cap hρ ho hn =>
                obtain ⟨cl0, cells, e1, e2, e3, e4, e5, e6, e7⟩ := s.obj l _ hl
                rw [hρ] at e1
                cases e1
                subst e2
                have hm1 : min rows.length n ≤ rows.length := Nat.min_le_left _ _
                have hm2 : min rows.length n ≤ n := Nat.min_le_right _ _
                have hmn : min rows.length n * es ≤ n * es := Nat.mul_le_mul_right _ hm2
                have hvl : (vs.take (min rows.length n * es)).length = min rows.length n * es := by
                  rw [List.length_take, g1.1]
                  exact Nat.min_eq_left (Nat.mul_le_mul_right _ hm1)
                have one : ∀ v ∈ vs.take (min rows.length n * es), v.oneCell' = true := fun v hv => g1.one c2 v (List.mem_of_mem_take hv)
                have hrl := (e7 i r hr).1
                by_cases h0 : n = 0
                · subst h0
                  have hz : min rows.length 0 = 0 := Nat.min_zero _
                  have hset : H.set l (.arr T cl.sz (rows0.set i (setC r k (rows.take (min rows.length 0)).flatten))) = H := by
                    have h1 : setC r k (rows.take (min rows.length 0)).flatten = r := by rw [hz]; simp [setC]
                    rw [h1]
                    have h2 : rows0.set i r = rows0 := by
                      obtain ⟨hi, rfl⟩ := List.getElem?_eq_some_iff.1 hr
                      exact List.set_getElem_self hi
                    rw [h2]
                    obtain ⟨hi, hx⟩ := List.getElem?_eq_some_iff.1 hl
                    rw [← hx]
                    exact List.set_getElem_self hi
                  rw [hset]
                  refine Yields.same s (V := .int .i64 (min rows.length 0 : Nat)) ?_ (.int _ _)
                  exact copy_run hu hsz (g2 c.w) (hf 0) (fun a ha => by rw [hz, Nat.zero_mul]; simp [storeCells]) (fun _ => rfl)
                · have ho' := ho.resolve_right h0
                  have hfit : o + (vs.take (min rows.length n * es)).length ≤ cells.size := by
                    rw [hvl]
                    by_cases h3 : min rows.length n * es = 0
                    · have h4 : n * es ≠ 0 := Nat.mul_ne_zero h0 c2
                      have := RowsAt.lim e7 hr (show k < cl.sz by omega)
                      omega
                    · have := RowsAt.lim e7 hr (show k + min rows.length n * es - 1 < cl.sz by omega)
                      omega
                  obtain ⟨w', cells', hrun, f1, f2, f3, f4, f5, f6, f7, f8⟩ := run_put (P := P) e3 hfit one
                  refine ⟨.int .i64 (min rows.length n : Nat), { c with w := w' }, ?_, To.write s ⟨_, hl, rfl⟩ hρ _ f4 f5 f6 f7 f8 (fun m => ⟨cl, cells', hρ, rfl, f1, f2.trans e4, e5, e6, ?_⟩), .int _ _⟩
                  · exact copy_run hu hsz (g2 c.w) (hf n) (fun a ha => by cases ha; exact hrun) (fun h => by cases h)
                  · have hcs := ((g1.take hm1).mono m).cells
                    refine RowsAt.put (e7.mono m) hr (by rw [hcs.1, hvl]; omega) hcs.1.symm hcs.2 (fun j => ?_)
                    rw [f3, ho']
            · cases h
          · cases h
        · cases h
      · cases h
    · cases h
  · cases h

/-! ### Bytes and texts -/
def numsOf : List (List AV) → Option (List Int)
  | [] => some []
  | [.int .u8 n] :: r => match numsOf r with
    | some l => some (n :: l)
    | none => none
  | _ => none

theorem numsOf_get : ∀ {rows : List (List AV)} {xs : List Int}, numsOf rows = some xs → xs.length = rows.length ∧ ∀ (i : Nat) (r : List AV), rows[i]? = some r → r = [.int .u8 (xs.getD i 0)]
  | [], xs, h => by cases h; exact ⟨rfl, fun i r hr => by cases hr⟩
  | row :: rs, xs, h => by
    unfold numsOf at h
    split at h
    · rename_i heq; cases heq
    · rename_i n r' heq
      cases heq
      split at h
      · rename_i l hl
        cases h
        obtain ⟨i1, i2⟩ := numsOf_get hl
        refine ⟨by simp [i1], fun i r hr => ?_⟩
        cases i with
        | zero => simp at hr; subst hr; rfl
        | succ i => simpa using i2 i r (by simpa using hr)
      · cases h
    · cases h

def vconv (P : Program) (H : Hp) (src dst : TypeId) (x : AV) : Option AV :=
  match P.underlying src, P.underlying dst, x with
  | some (.slice e), some .string, x => match P.underlying e, rowsOf H x with
    | some (.int .u8), some rows => (numsOf rows).map fun xs => .str (strOfNums xs)
    | _, _ => none
  | some .string, some (.slice e), .str s => match P.underlying e with
    | some (.int .u8) => some (.list .loose (strRows s))
    | _ => none
  | _, _, _ => vconvInt P src dst x

theorem numsOf_len {rows : List (List AV)} {xs : List Int} (h : numsOf rows = some xs) : lenOk 1 rows = true := by
  refine List.all_eq_true.2 (fun r hr => ?_)
  obtain ⟨i, hi⟩ := List.mem_iff_getElem?.1 hr
  rw [(numsOf_get h).2 i r hi]
  rfl

/-- A block that is never written again. -/
theorem To.newI {c : Cx} {H : Hp} (s : Sim c H) {w' : World} (hsz : c.w.heap.size < w'.heap.size) (hh : ∀ b, b < c.w.heap.size → w'.heap[b]? = c.w.heap[b]?) (h1 : w'.os = c.w.os) (h2 : w'.tape = c.w.tape) (h3 : w'.output = c.w.output) :
    To c H { c with w := w', I := fun b => c.I b ∨ b = c.w.heap.size } H := by
  have m : Mono c { c with w := w', I := fun b => c.I b ∨ b = c.w.heap.size } := ⟨fun _ h => .inl h, fun _ h => h, fun _ _ h => h, fun b h => hh b (h.elim (s.bound b) (s.boundB b))⟩
  refine ⟨⟨m, by show c.w.heap.size ≤ w'.heap.size; omega, fun b hb _ => hh b hb, fun b h => h.elim .inl (fun e => .inr (.inl (by omega))), fun _ => Iff.rfl, fun _ _ h => .inl h, h1, h2, h3⟩, ⟨fun b hb => ?_, fun b hb => ?_, fun l o h => ?_, s.inj, s.fresh⟩, Nat.le_refl _, fun _ _ h => h⟩
  · show b < w'.heap.size
    rcases hb with hb | hb
    · have := s.bound b hb; omega
    · omega
  · show b < w'.heap.size
    have := s.boundB b hb; omega
  · refine (s.obj l o h).keep m (fun cl hr hv hi => ?_) (fun _ h => h) (fun cl hr hv => hh _ (s.lt (live_of h hv) hr))
    rcases hi with hi | hi
    · exact hi
    · have := s.lt (live_of h hv) hr; omega

theorem conv_sound {P : Program} {c : Cx} {H : Hp} (s : Sim c H) {src dst : TypeId} {x v : AV} {X : Value} (hX : Rel c x X) (h : vconv P H src dst x = some v) : Yields P c H (convert src dst X) v H := by
  unfold vconv at h
  split at h
  · rename_i x' e hs hd
    split at h
    · rename_i rows he hr
      cases hn : numsOf rows with
      | none => rw [hn] at h; cases h
      | some xs =>
        rw [hn] at h
        cases h
        obtain ⟨n1, n2⟩ := numsOf_get hn
        have hsl := rows_sound s hX hr (numsOf_len hn)
        refine Yields.same s (V := .string (strOfNums xs)) ?_ (.str _)
        rcases hsl with ⟨base, cap, rfl, rfl⟩ | ⟨b, o, cap, rfl, hc⟩
        · have : xs = [] := List.eq_nil_of_length_eq_zero (by simpa using n1)
          subst this
          cases base with
          | none => exact run_convert_bytes_nil c.w src e hs he 0 cap dst hd
          | some a =>
            have hl := run_loadCells_list (P := P) c.w a [] (fun j v h => by cases h)
            have hl' : (loadCells a 0).run P c.w = .ok (([] : List Int).map (Value.int .u8)).toArray c.w := by simpa using hl
            rw [run_convert_bytes_string c.w src dst e _ 0 cap hs he hd, run_bytesToString c.w a 0 cap [] hl']
            rfl
        · refine run_convert_bytes_arg c.w src e hs he b o rows.length cap xs n1 (fun i hi => ?_) dst hd
          have hr' : rows[i]? = some rows[i] := List.getElem?_eq_getElem hi
          obtain ⟨_, g2⟩ := hc i _ hr'
          rw [n2 i _ hr'] at g2
          obtain ⟨V, v1, v2, v3⟩ := g2 0 _ rfl
          cases v3
          simpa using v1
    · cases h
  · rename_i e sb hs hd
    split at h
    · rename_i he
      cases h
      cases hX
      obtain ⟨cp, hcp⟩ : ∃ m, m = (Question.appendCap sb.size 0 e).cut (c.w.tape c.w.drawn (.appendCap sb.size 0 e)) := ⟨_, rfl⟩
      have hle : sb.size ≤ cp := by rw [hcp]; simp only [Question.cut]; omega
      let cells : Array Value := sb.data.map (fun b => .int .u8 b.toNat) ++ Array.replicate (cp - sb.size) (.int .u8 0)
      have hsize : cells.size = cp := by
        have : sb.data.size = sb.size := rfl
        simp [cells]; omega
      let w1 : World := { c.w.drew with heap := c.w.heap.push (.cells cells e) }
      let w' : World := w1.freeze ⟨c.w.heap.size, cells.size, none⟩ 1
      have hrun : (convert src dst (.string sb)).run P c.w = .ok (.slice (some ⟨c.w.heap.size, 0, none⟩) sb.size cp) w' := by
        have frc : (Question.appendCap sb.size 0 e).forced = false := rfl
        have hshape : w1.shape? c.w.heap.size = some (e, cells.size) := by simp [World.shape?, w1]
        have hw1 : ({ c.w with drawn := c.w.drawn + 1, heap := c.w.heap.push (.cells cells e) } : World) = w1 := rfl
        simp only [convert, Sem.run_bind, run_un hs, run_un hd, Result.andThen_ok, run_un he, Conv.stringToBytes, run_choose, frc, Bool.false_eq_true, if_false, ← hcp, newRow, run_newObj, Sem.run_pure, markStringish, run_shape]
        show (Sem.run P (match w1.shape? c.w.heap.size with | some (_, n) => freeze { block := c.w.heap.size, off := n } 1 | _ => pure ()) w1).andThen _ = _
        rw [hshape]
        rfl
      have hheap : ∀ b, w'.heap[b]? = if b = c.w.heap.size then some (.cells cells e (cells.size, cells.size + 1)) else c.w.heap[b]? := fun b => by
        simp only [w', World.freeze, Nat.one_ne_zero, if_false, Array.getElem?_modify, w1]
        by_cases hb : b = c.w.heap.size
        · subst hb
          simp
        · rw [if_neg (Ne.symm hb), if_neg hb, Array.getElem?_push, if_neg hb]
      have hws : w'.heap.size = c.w.heap.size + 1 := by simp [w', World.freeze, w1]
      have hnew : w'.heap[c.w.heap.size]? = some (.cells cells e (cells.size, cells.size + 1)) := by rw [hheap, if_pos rfl]
      have hget : ∀ (i : Nat) (h : i < sb.data.size), cells[i]? = some (.int .u8 (sb.data[i].toNat : Int)) := fun i h => by
        simp only [cells]
        rw [Array.getElem?_append_left (by rw [Array.size_map]; exact h), Array.getElem?_map, Array.getElem?_eq_getElem h]
        rfl
      have T := To.newI s (w' := w') (by omega) (fun b hb => by rw [hheap, if_neg (by omega)]) rfl rfl rfl
      refine ⟨_, _, hrun, T, ?_⟩
      have hlen : (strRows sb).length = sb.size := by unfold strRows; rw [List.length_map]; rfl
      have hrel := Rel.list (c := { c with w := w', I := fun b => c.I b ∨ b = c.w.heap.size }) .loose (strRows sb) c.w.heap.size 0 1 cp none (.inr rfl) (fun i j => cells.getD i undef) (.inr (.inr rfl)) (by omega) (fun h => by cases h)
        (fun r hr => by unfold strRows at hr; obtain ⟨b, _, rfl⟩ := List.mem_map.1 hr; rfl)
        (List.all_eq_true.2 (fun r hr => by unfold strRows at hr; obtain ⟨b, _, rfl⟩ := List.mem_map.1 hr; rfl))
        (fun i j hi hj => ?_) (fun i r j x hr hx => ?_)
      · rwa [hlen] at hrel
      · have hj0 : j = 0 := by omega
        subst hj0
        rw [hlen] at hi
        rw [cell_at hnew]
        have hi3 : i < sb.data.size := hi
        have e0 : 0 + i * 1 + 0 = i := by omega
        rw [e0, Array.getD_eq_getD_getElem?, hget i hi3]
        exact ⟨rfl, rfl⟩
      · unfold strRows at hr
        rw [List.getElem?_map] at hr
        cases hb : sb.data.toList[i]? with
        | none => rw [hb] at hr; cases hr
        | some b =>
          rw [hb] at hr
          cases hr
          have hi3 : i < sb.data.size := by have := (List.getElem?_eq_some_iff.1 hb).1; simpa using this
          have hbv : sb.data[i] = b := by
            have := (List.getElem?_eq_some_iff.1 hb).2
            simpa using this
          cases j with
          | succ j => simp at hx
          | zero =>
            simp at hx
            subst hx
            have : cells.getD i undef = .int .u8 (b.toNat : Int) := by rw [Array.getD_eq_getD_getElem?, hget i hi3, hbv]; rfl
            rw [this]
            exact .int _ _
    · cases h
  · obtain ⟨V, h1, h2⟩ := convInt_sound hX h
    exact Yields.same s h1 h2
end Go.Vi
end
