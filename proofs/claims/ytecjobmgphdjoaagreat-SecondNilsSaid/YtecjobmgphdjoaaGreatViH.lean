/- Vi, part H: make, struct and slice literals. -/
import Derived.Test.YtecjobmgphdjoaaGreatViG
set_option autoImplicit false
set_option linter.unusedVariables false
set_option linter.unusedSimpArgs false
namespace Go.Vi

theorem run_by {P : Program} {t : TypeId} {n : Nat} (h : byOf P t = some n) : ∃ i, (∀ w, (typeInfo t).run P w = .ok i w) ∧ i.bytes = n := by
  unfold byOf at h
  cases hi : P.info? t with
  | none => rw [hi] at h; cases h
  | some i => rw [hi] at h; cases h; exact ⟨i, by simp [typeInfo, hi], rfl⟩

/-- A type's zero value: its cells. -/
def zcOf (P : Program) (t : TypeId) : Option (List AV) := (zrOf P t).bind AV.cells

theorem run_zc {P : Program} {t : TypeId} {zc : List AV} (h : zcOf P t = some zc) (w : World) :
    ∃ V, (zeroValue t).run P w = .ok V w ∧ V.cells.size = zc.length ∧ ∀ (c : Cx) (j : Nat) (x : AV), zc[j]? = some x → ∃ U, V.cells[j]? = some U ∧ U.oneCell' = true ∧ Rel c x U := by
  unfold zcOf at h
  cases hz : zrOf P t with
  | none => rw [hz] at h; cases h
  | some z =>
    rw [hz] at h
    obtain ⟨V, h1, h2⟩ := run_zr hz w
    exact ⟨V, h1, ((h2 ⟨w, fun _ => True, fun _ => True, fun _ => none⟩).cells h).1, fun c j x hx => ((h2 c).cells h).2 j x hx⟩

theorem range0 : Array.range 0 = (#[] : Array Nat) := by simp

theorem zero_cells {c : Cx} {Z : Value} {zc : List AV} {sz n m : Nat} (hz : Z.cells.size = zc.length) (hs : zc.length = sz) (h0 : sz ≠ 0) (hm : m ≤ n)
    (hc : ∀ (j : Nat) (x : AV), zc[j]? = some x → ∃ U, Z.cells[j]? = some U ∧ U.oneCell' = true ∧ Rel c x U) :
    RowsAt c ((Array.range (n * sz)).map (fun j => Z.cells[j % Z.cells.size]!)) 0 sz (List.replicate m zc) := fun i r hr => by
  have hi : i < m := by have := (List.getElem?_eq_some_iff.1 hr).1; simpa using this
  rw [List.getElem?_replicate, if_pos hi] at hr
  cases hr
  refine ⟨hs, fun j x hx => ?_⟩
  have hj : j < sz := by rw [← hs]; exact (List.getElem?_eq_some_iff.1 hx).1
  obtain ⟨U, u1, u2, u3⟩ := hc j x hx
  refine ⟨U, ?_, u2, u3⟩
  have hlt : 0 + i * sz + j < n * sz := by
    have := Nat.mul_le_mul_right sz (show i + 1 ≤ n by omega)
    rw [Nat.add_mul, Nat.one_mul] at this
    omega
  have hmod : (0 + i * sz + j) % Z.cells.size = j := by
    rw [hz, hs, Nat.zero_add, Nat.add_comm, Nat.add_mul_mod_self_right, Nat.mod_eq_of_lt hj]
  rw [Array.getElem?_map, Array.getElem?_range, if_pos hlt]
  simp only [Option.map_some, hmod]
  have hj' : j < Z.cells.size := by omega
  rw [Array.getElem?_eq_getElem hj'] at u1
  cases u1
  simp [hj']

def vmake (P : Program) (H : Hp) (t : TypeId) (ln cp : AV) : Option (AV × Hp) :=
  match elemAt P t, ln, cp with
  | some (none, e, sz), .int _ n, .int _ m => match zcOf P e, byOf P e with
    | some zc, some by_ => if zc.length = sz ∧ sz ≠ 0 ∧ by_ ≠ 0 ∧ 0 ≤ n ∧ n ≤ m ∧ m * (by_ : Int) ≤ 140737488355328 then
        some (.row (n == m) H.length 0 n.toNat, H ++ [.arr e sz (List.replicate n.toNat zc)]) else none
    | _, _ => none
  | _, _, _ => none

theorem wrap_i64 {n : Int} (h0 : 0 ≤ n) (h : n ≤ 140737488355328) : IntKind.i64.wrap n = n := IntWalk.i64_in n ⟨by omega, by omega⟩

theorem make_sound {P : Program} {c : Cx} {H H' : Hp} (s : Sim c H) {t : TypeId} {ln cp v : AV} {LN CP : Value} (hL : Rel c ln LN) (hC : Rel c cp CP) (h : vmake P H t ln cp = some (v, H')) : Yields P c H (Instr.makeSlice t LN CP) v H' := by
  unfold vmake at h
  split at h
  · rename_i e sz k n k' m he
    obtain ⟨hsz, hu⟩ := elemAt_of he
    have hu := (hu.resolve_right (fun h => by obtain ⟨_, h, _⟩ := h; cases h)).2
    split at h
    · rename_i zc by_ hzc hby
      split at h
      · rename_i hc
        obtain ⟨c1, c2, c3, c4, c5, c6⟩ := hc
        cases h
        cases hL
        cases hC
        obtain ⟨Z, z1, z2, z3⟩ := run_zc hzc c.w
        obtain ⟨ti, t1, t2⟩ := run_by hby
        have hm : m ≤ 140737488355328 := by
          have h1 : (1 : Int) ≤ by_ := by omega
          have h2 : m * 1 ≤ m * (by_ : Int) := Int.mul_le_mul_of_nonneg_left h1 (by omega)
          omega
        have wn : IntKind.i64.wrap n = n := wrap_i64 c4 (by omega)
        have wm : IntKind.i64.wrap m = m := wrap_i64 (by omega) hm
        have big : ¬ (by_ : Int) * m > 2 ^ 48 := by
          rw [Int.mul_comm]
          have : (2 ^ 48 : Int) = 281474976710656 := by decide
          omega
        have tl : (decide (m < 0) || decide ((by_ : Int) * m > 2 ^ 48)) = false := by
          simp only [Bool.or_eq_false_iff, decide_eq_false_iff_not]
          exact ⟨by omega, big⟩
        refine ⟨.slice (some ⟨c.w.heap.size, 0, none⟩) n.toNat m.toNat, _, ?_, new_rows s e (zero_cells (n := m.toNat) (m := n.toNat) z2 c1 c2 (by omega) (z3 c)), ?_⟩
        · simp only [Instr.makeSlice, Sem.run_bind, run_un hu, Result.andThen_ok, asInt, asIntOf, Sem.run_pure, t1, t2, wn, wm, tl]
          have d1 : decide (n < 0) = false := decide_eq_false (by omega)
          have d2 : decide (n > m) = false := decide_eq_false (by omega)
          rw [if_neg (by simp [d1, d2]), Sem.run_bind, run_askRoom, Result.andThen_ok, Sem.run_bind, run_sz hsz, Result.andThen_ok]
          by_cases h0 : m.toNat * sz = 0
          · simp [h0, newRow, range0]
          · rw [if_neg h0]
            simp [z1, newRow]
        · refine .row _ H.length 0 _ ⟨c.w.heap.size, 0, sz, _⟩ 0 m.toNat (updρ_self _ _ _) (by simp) (by omega) (fun e => ?_) ?_
          · have : n = m := by simpa using e
            rw [this]
          · simp
      · cases h
    · cases h
  · cases h

/-! ### Literals -/
theorem foldl_put (off : Nat) : ∀ (vs : List Value) (k : Nat) (cells : Array Value), off + k + vs.length ≤ cells.size →
    let r := (vs.zipIdx k).foldl (fun cs (x : Value × Nat) => cs.setIfInBounds (off + x.2) x.1) cells
    r.size = cells.size ∧ ∀ m, r[m]? = if off + k ≤ m ∧ m < off + k + vs.length then vs[m - (off + k)]? else cells[m]?
  | [], k, cells, _ => by
    refine ⟨rfl, fun m => ?_⟩
    rw [if_neg (by simp only [List.length_nil]; omega)]
    rfl
  | v :: vs, k, cells, h => by
    simp only [List.length_cons] at h
    have ih := foldl_put off vs (k + 1) (cells.setIfInBounds (off + k) v) (by rw [Array.size_setIfInBounds]; omega)
    simp only [List.zipIdx_cons, List.foldl_cons]
    refine ⟨by rw [ih.1]; simp, fun m => ?_⟩
    rw [ih.2]
    by_cases h1 : off + (k + 1) ≤ m ∧ m < off + (k + 1) + vs.length
    · rw [if_pos h1, if_pos (by simp only [List.length_cons]; omega), show m - (off + k) = (m - (off + (k + 1))) + 1 by omega, List.getElem?_cons_succ]
    · rw [if_neg h1]
      by_cases h2 : m = off + k
      · subst h2
        rw [if_pos (by simp only [List.length_cons]; omega)]
        rw [Array.getElem?_setIfInBounds_self_of_lt (by omega)]
        simp
      · rw [if_neg (by simp only [List.length_cons]; omega), Array.getElem?_setIfInBounds_ne (by omega)]

/-- One part of a literal laid. -/
theorem fill_cons {place : Nat → Option (Nat × Nat)} {cells : Array Value} {i off size : Nat} {V : Value} {rest : List (Nat × Value)} (hp : place i = some (off, size)) (hV : V.cells.size = size) (hf : off + size ≤ cells.size) :
    ∃ cells', Instr.fill place cells ((i, V) :: rest) = Instr.fill place cells' rest ∧ cells'.size = cells.size ∧ ∀ m, cells'[m]? = if off ≤ m ∧ m < off + size then V.cells[m - off]? else cells[m]? := by
  have h := foldl_put off V.cells.toList 0 cells (by simp; omega)
  refine ⟨V.cells.zipIdx.foldl (fun cs (c, j) => cs.setIfInBounds (off + j) c) cells, ?_, ?_, fun m => ?_⟩
  · have hc : ¬ (V.cells.size ≠ size ∨ off + V.cells.size > cells.size) := by omega
    simp only [Instr.fill, hp]
    rw [if_neg (by simpa using hc)]
  · have := h.1
    rw [← Array.foldl_toList, Array.toList_zipIdx]
    exact this
  · have := h.2 m
    rw [← Array.foldl_toList, Array.toList_zipIdx]
    simp only [Nat.add_zero, Array.length_toList, hV] at this
    rw [this]
    simp

def vfillRows (sz : Nat) (rows : List (List AV)) : List (Nat × AV) → Option (List (List AV))
  | [] => some rows
  | (i, v) :: rest => match v.cells with
    | some cs => if cs.length = sz ∧ i < rows.length then vfillRows sz (rows.set i cs) rest else none
    | none => none

/-- Parts alike on both sides. -/
inductive PartsR (c : Cx) : List (Nat × AV) → List (Nat × Value) → Prop
  | nil : PartsR c [] []
  | cons {i : Nat} {x : AV} {X : Value} {r : List (Nat × AV)} {R : List (Nat × Value)} : Rel c x X → PartsR c r R → PartsR c ((i, x) :: r) ((i, X) :: R)

theorem fillRows_sound {c : Cx} {sz : Nat} (h0 : sz ≠ 0) {ps : List (Nat × AV)} {PS : List (Nat × Value)} (hp : PartsR c ps PS) : ∀ {rows rows' : List (List AV)} {cells : Array Value}, vfillRows sz rows ps = some rows' → RowsAt c cells 0 sz rows → cells.size = rows.length * sz →
    ∃ cells', Instr.fill (fun i => some (i * sz, sz)) cells PS = some cells' ∧ RowsAt c cells' 0 sz rows' ∧ cells'.size = cells.size ∧ rows'.length = rows.length := by
  induction hp with
  | nil => intro rows rows' cells h hR hs; cases h; exact ⟨cells, rfl, hR, rfl, rfl⟩
  | @cons i x X r R hX hr ih =>
    intro rows rows' cells h hR hs
    unfold vfillRows at h
    split at h
    · rename_i cs hcs
      split at h
      · rename_i hc
        obtain ⟨hlen, hi⟩ := hc
        obtain ⟨hXs, hXc⟩ := hX.cells hcs
        have hf : i * sz + sz ≤ cells.size := by
          have := Nat.mul_le_mul_right sz (show i + 1 ≤ rows.length by omega)
          rw [Nat.add_mul, Nat.one_mul] at this
          omega
        obtain ⟨cells1, e1, e2, e3⟩ := fill_cons (place := fun i => some (i * sz, sz)) (rest := R) rfl (show X.cells.size = sz by omega) hf
        have hrow : rows[i]? = some rows[i] := List.getElem?_eq_getElem hi
        have hput : RowsAt c cells1 0 sz (rows.set i (setC rows[i] 0 cs)) := by
          have hl := (hR i _ hrow).1
          refine hR.put hrow (by omega) (vs := X.cells.toList) (by simp; omega) (fun j y hy => ?_) (fun m => ?_)
          · obtain ⟨U, u1, u2, u3⟩ := hXc j y hy
            exact ⟨U, by simpa using u1, u2, u3⟩
          · rw [e3]
            simp only [Nat.zero_add, Nat.add_zero, Array.length_toList, Array.getElem?_toList]
            rw [show X.cells.size = sz by omega]
        have hset : setC rows[i] 0 cs = cs := by
          have hl := (hR i _ hrow).1
          unfold setC
          rw [List.take_zero, List.nil_append, List.drop_of_length_le (by omega), List.append_nil]
        rw [hset] at hput
        obtain ⟨cells2, f1, f2, f3, f4⟩ := ih h hput (by rw [e2, hs]; simp)
        exact ⟨cells2, e1.trans f1, f2, f3.trans e2, by rw [f4]; simp⟩
      · cases h
    · cases h

def vbuildSlice (P : Program) (H : Hp) (t : TypeId) (len : Nat) (ps : List (Nat × AV)) : Option (AV × Hp) :=
  match elemAt P t with
  | some (none, e, sz) => match zcOf P e with
    | some zc => if zc.length = sz ∧ sz ≠ 0 ∧ len * sz ≤ 2 ^ 24 then match vfillRows sz (List.replicate len zc) ps with
        | some rows => some (.row true H.length 0 len, H ++ [.arr e sz rows])
        | none => none
      else none
    | none => none
  | _ => none

theorem buildSlice_sound {P : Program} {c : Cx} {H H' : Hp} (s : Sim c H) {t : TypeId} {len : Nat} {ps : List (Nat × AV)} {PS : Array (Nat × Value)} {v : AV} (hp : PartsR c ps PS.toList) (h : vbuildSlice P H t len ps = some (v, H')) :
    Yields P c H (Instr.buildSlice t len PS) v H' := by
  unfold vbuildSlice at h
  split at h
  · rename_i e sz he
    obtain ⟨hsz, hu⟩ := elemAt_of he
    have hu := (hu.resolve_right (fun h => by obtain ⟨_, h, _⟩ := h; cases h)).2
    split at h
    · rename_i zc hzc
      split at h
      · rename_i hc
        obtain ⟨c1, c2, c3⟩ := hc
        split at h
        · rename_i rows hf
          cases h
          obtain ⟨Z, z1, z2, z3⟩ := run_zc hzc c.w
          have hR := zero_cells (c := c) (n := len) (m := len) z2 c1 c2 (Nat.le_refl _) (z3 c)
          obtain ⟨cells, f1, f2, f3, f4⟩ := fillRows_sound c2 hp hf hR (by simp)
          refine ⟨.slice (some ⟨c.w.heap.size, 0, none⟩) len len, _, ?_, new_rows s e f2, ?_⟩
          · simp only [Instr.buildSlice, Sem.run_bind, run_un hu, Result.andThen_ok, run_sz hsz]
            rw [if_neg (by omega)]
            by_cases h0 : len * sz = 0
            · rw [if_pos h0]
              have e0 : (Array.map (fun x => (#[] : Array Value)[x % (#[] : Array Value).size]!) (Array.range (len * sz))) = (Array.range (len * sz)).map (fun j => Z.cells[j % Z.cells.size]!) := by rw [h0]; simp [range0]
              simp only [pure_bind, e0, f1]
              simp [newRow]
            · rw [if_neg h0]
              simp only [bind_assoc, pure_bind, Sem.run_bind, z1, Result.andThen_ok, f1]
              simp [newRow]
          · refine .row _ H.length 0 _ ⟨c.w.heap.size, 0, sz, _⟩ 0 len (updρ_self _ _ _) (by simp) (Nat.le_refl _) (fun _ => rfl) ?_
            simp [f3]
        · cases h
      · cases h
    · cases h
  · cases h

def vfill (place : Nat → Option (Nat × Nat)) (cs : List AV) : List (Nat × AV) → Option (List AV)
  | [] => some cs
  | (i, v) :: rest => match place i, v.cells with
    | some (off, n), some vs => if vs.length = n ∧ off + n ≤ cs.length then vfill place (setC cs off vs) rest else none
    | _, _ => none

def AggR (c : Cx) (cs : List AV) (Vs : Array Value) : Prop := cs.length = Vs.size ∧ ∀ (j : Nat) (x : AV), cs[j]? = some x → ∃ U, Vs[j]? = some U ∧ U.oneCell' = true ∧ Rel c x U

theorem AggR.rel {c : Cx} {cs : List AV} {Vs : Array Value} (h : AggR c cs Vs) : Rel c (.agg cs) (.agg Vs) := by
  refine .agg cs Vs h.1 (fun j V hV => ?_) (fun j x V hx hV => ?_)
  · have hj := (Array.getElem?_eq_some_iff.1 hV).1
    have hj' : j < cs.length := by rw [h.1]; exact hj
    obtain ⟨U, u1, u2, _⟩ := h.2 j cs[j] (List.getElem?_eq_getElem hj')
    rw [hV] at u1
    cases u1
    exact u2
  · obtain ⟨U, u1, _, u3⟩ := h.2 j x hx
    rw [hV] at u1
    cases u1
    exact u3

theorem fill_sound {c : Cx} {place place' : Nat → Option (Nat × Nat)} (hpl : ∀ i a, place i = some a → place' i = some a) {ps : List (Nat × AV)} {PS : List (Nat × Value)} (hp : PartsR c ps PS) : ∀ {cs cs' : List AV} {cells : Array Value}, vfill place cs ps = some cs' → AggR c cs cells →
    ∃ cells', Instr.fill place' cells PS = some cells' ∧ AggR c cs' cells' := by
  induction hp with
  | nil => intro cs cs' cells h hR; cases h; exact ⟨cells, rfl, hR⟩
  | @cons i x X r R hX hr ih =>
    intro cs cs' cells h hR
    unfold vfill at h
    split at h
    · rename_i off n vs hpi hvs
      split at h
      · rename_i hc
        obtain ⟨hlen, hf⟩ := hc
        obtain ⟨hXs, hXc⟩ := hX.cells hvs
        obtain ⟨cells1, e1, e2, e3⟩ := fill_cons (rest := R) (hpl i _ hpi) (show X.cells.size = n by omega) (cells := cells) (by have := hR.1; omega)
        have hput : AggR c (setC cs off vs) cells1 := by
          refine ⟨by rw [setC_length (by omega), e2, hR.1], fun j y hy => ?_⟩
          rw [setC_get (by omega)] at hy
          split at hy
          · rename_i hj
            obtain ⟨U, u1, u2, u3⟩ := hXc _ y hy
            exact ⟨U, by rw [e3, if_pos (by omega)]; exact u1, u2, u3⟩
          · rename_i hj
            obtain ⟨U, u1, u2, u3⟩ := hR.2 j y hy
            exact ⟨U, by rw [e3, if_neg (by omega)]; exact u1, u2, u3⟩
        obtain ⟨cells2, f1, f2⟩ := ih h hput
        exact ⟨cells2, e1.trans f1, f2⟩
      · cases h
    · cases h

/-- Where a literal's parts lie. -/
def sizesOf (P : Program) : List Field → Option (List (Nat × Nat))
  | [] => some []
  | f :: r => match szOf P f.type, sizesOf P r with
    | some n, some l => some ((f.offset, n) :: l)
    | _, _ => none

theorem sizes_run {P : Program} (w : World) : ∀ {fs : List Field} {l : List (Nat × Nat)}, sizesOf P fs = some l → (fs.mapM fun f => do pure (f.offset, ← sizeOf f.type) : Sem (List (Nat × Nat))).run P w = .ok l w
  | [], l, h => by cases h; rfl
  | f :: r, l, h => by
    unfold sizesOf at h
    split at h
    · rename_i n l' hn hl
      cases h
      have ih := sizes_run w hl
      simp only [List.mapM_cons, bind_assoc, Sem.run_bind, run_sz hn, Result.andThen_ok, pure_bind, ih]
      rfl
    · cases h

def vbuild (P : Program) (t : TypeId) (ps : List (Nat × AV)) : Option AV :=
  match P.underlying t, zrOf P t with
  | some (.struct fields), some (.agg zc) => match sizesOf P fields.toList with
    | some l => (vfill (l[·]?) zc ps).map .agg
    | none => none
  | some (.array _ e), some (.agg zc) => match szOf P e with
    | some n => (vfill (fun i => some (i * n, n)) zc ps).map .agg
    | none => none
  | _, _ => none

theorem zr_agg {P : Program} {t : TypeId} {zc : List AV} (h : zrOf P t = some (.agg zc)) (c : Cx) (w : World) : ∃ Vs, (zeroValue t).run P w = .ok (.agg Vs) w ∧ AggR c zc Vs := by
  obtain ⟨V, h1, h2⟩ := run_zr h w
  have := h2 c
  cases V with
  | agg Vs =>
    refine ⟨Vs, h1, ?_⟩
    have hc := this.cells (cs := zc) rfl
    exact ⟨hc.1.symm, hc.2⟩
  | _ => cases this

theorem build_sound {P : Program} {c : Cx} {t : TypeId} {ps : List (Nat × AV)} {PS : Array (Nat × Value)} {v : AV} (hp : PartsR c ps PS.toList) (h : vbuild P t ps = some v) : ∃ V, (Instr.build t PS).run P c.w = .ok V c.w ∧ Rel c v V := by
  unfold vbuild at h
  split at h
  · rename_i fields zc hu hz
    obtain ⟨Vs, z1, z2⟩ := zr_agg hz c c.w
    split at h
    · rename_i l hl
      cases hf : vfill (l[·]?) zc ps with
      | none => rw [hf] at h; cases h
      | some cs =>
        rw [hf] at h
        cases h
        have hm : (fields.mapM fun f => do pure (f.offset, ← sizeOf f.type) : Sem (Array (Nat × Nat))).run P c.w = .ok l.toArray c.w := by
          rw [Array.mapM_eq_mapM_toList, Sem.run_map, sizes_run c.w hl]
          rfl
        obtain ⟨cells, f1, f2⟩ := fill_sound (place' := (l.toArray[·]?)) (fun i a h => by simpa using h) hp hf z2
        refine ⟨.agg cells, ?_, f2.rel⟩
        simp only [Instr.build, Sem.run_bind, z1, Result.andThen_ok, run_un hu, hm, Value.cells, f1]
        rfl
    · cases h
  · rename_i n e zc hu hz
    obtain ⟨Vs, z1, z2⟩ := zr_agg hz c c.w
    split at h
    · rename_i m hm
      cases hf : vfill (fun i => some (i * m, m)) zc ps with
      | none => rw [hf] at h; cases h
      | some cs =>
        rw [hf] at h
        cases h
        obtain ⟨cells, f1, f2⟩ := fill_sound (place' := fun i => some (i * m, m)) (fun i a h => h) hp hf z2
        refine ⟨.agg cells, ?_, f2.rel⟩
        simp only [Instr.build, Sem.run_bind, z1, Result.andThen_ok, run_un hu, run_sz hm, Value.cells, f1]
        rfl
    · cases h
  · cases h
end Go.Vi
