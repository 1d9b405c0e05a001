/- Vi, part C: what operations do to abstract values: loads, stores, new variables, addresses. -/
import Derived.Test.YtecjobmgphdjoaaGreatViB
set_option autoImplicit false
namespace Go.Vi

def szOf (P : Program) (t : TypeId) : Option Nat := (P.info? t).map (·.size)
def byOf (P : Program) (t : TypeId) : Option Nat := (P.info? t).map (·.bytes)
def aggOf (P : Program) (t : TypeId) : Option Bool := (P.underlying t).map fun d => match d with | .struct _ | .array _ _ => true | _ => false

def leafOfV : Value → Option AV
  | .int k n => some (.int k n)
  | .bool b => some (.bool b)
  | .string s => some (.str s)
  | .pointer none => some .nilp
  | .slice none 0 0 => some .nils
  | .map none => some .nilm
  | .nilFunc => some .nilf
  | .nilIface => some .nili
  | _ => none
def leavesOfV : List Value → Option (List AV)
  | [] => some []
  | V :: r => match leafOfV V, leavesOfV r with
    | some x, some xs => some (x :: xs)
    | _, _ => none
def ofV : Value → Option AV
  | .agg cs => (leavesOfV cs.toList).map .agg
  | V => leafOfV V
def zrOf (P : Program) (t : TypeId) : Option AV := (P.info? t).bind fun i => i.zero.bind ofV

/-- A value's cells. -/
def AV.cells : AV → Option (List AV)
  | .undef | .tup _ => none
  | .agg cs => some cs
  | v => some [v]

theorem leafOfV_rel {c : Cx} {V : Value} {x : AV} (h : leafOfV V = some x) : Rel c x V ∧ V.oneCell' = true ∧ x.isVal = true ∧ x.isLeaf = true := by
  unfold leafOfV at h
  split at h <;> first | cases h | skip
  · exact ⟨.int _ _, rfl, rfl, rfl⟩
  · exact ⟨.bool _, rfl, rfl, rfl⟩
  · exact ⟨.str _, rfl, rfl, rfl⟩
  · exact ⟨.nilp, rfl, rfl, rfl⟩
  · exact ⟨.nils, rfl, rfl, rfl⟩
  · exact ⟨.nilm, rfl, rfl, rfl⟩
  · exact ⟨.nilf, rfl, rfl, rfl⟩
  · exact ⟨.nili, rfl, rfl, rfl⟩

theorem leavesOfV_get : ∀ {Vs : List Value} {xs : List AV}, leavesOfV Vs = some xs → xs.length = Vs.length ∧ ∀ (j : Nat) (V : Value), Vs[j]? = some V → ∃ x, xs[j]? = some x ∧ leafOfV V = some x
  | [], xs, h => by cases h; exact ⟨rfl, fun j V hj => by simp at hj⟩
  | V :: r, xs, h => by
    unfold leavesOfV at h
    split at h
    · rename_i x ys hx hr
      cases h
      have ih := leavesOfV_get hr
      refine ⟨by simp [ih.1], fun j V' hj => ?_⟩
      cases j with
      | zero => simp at hj; subst hj; exact ⟨x, by simp, hx⟩
      | succ j => simp at hj; simpa using ih.2 j V' hj
    · cases h

theorem ofV_rel {c : Cx} {V : Value} {x : AV} (h : ofV V = some x) : Rel c x V := by
  unfold ofV at h
  split at h
  · rename_i cs
    cases hl : leavesOfV cs.toList with
    | none => rw [hl] at h; cases h
    | some xs =>
      rw [hl] at h
      cases h
      have hg := leavesOfV_get hl
      refine .agg xs cs (by simpa using hg.1) (fun j V hV => ?_) (fun j x V hx hV => ?_)
      · obtain ⟨y, _, hy⟩ := hg.2 j V (by simpa using hV)
        exact (leafOfV_rel (c := c) hy).2.1
      · obtain ⟨y, hy1, hy2⟩ := hg.2 j V (by simpa using hV)
        rw [hx] at hy1
        cases hy1
        exact (leafOfV_rel hy2).1
  · exact (leafOfV_rel h).1

/-- A value's cells on both sides. -/
theorem Rel.cells {c : Cx} {v : AV} {V : Value} {cs : List AV} (h : Rel c v V) (hc : v.cells = some cs) :
    V.cells.size = cs.length ∧ ∀ (j : Nat) (x : AV), cs[j]? = some x → ∃ U, V.cells[j]? = some U ∧ U.oneCell' = true ∧ Rel c x U := by
  have one : ∀ {x : AV} {U : Value}, Rel c x U → U.oneCell' = true → U.cells = #[U] → [x] = cs → U.cells.size = cs.length ∧ ∀ (j : Nat) (y : AV), cs[j]? = some y → ∃ Z, U.cells[j]? = some Z ∧ Z.oneCell' = true ∧ Rel c y Z := by
    intro x U hr h1 hu hcs
    subst hcs
    rw [hu]
    refine ⟨rfl, fun j y hy => ?_⟩
    cases j with
    | zero => simp at hy; subst hy; exact ⟨U, by simp, h1, hr⟩
    | succ j => simp at hy
  have h' := h
  cases h with
  | undef V => cases hc
  | tup cs Vs hl h2 => cases hc
  | agg xs Vs hl h1 h2 =>
    simp only [AV.cells, Option.some.injEq] at hc
    subst hc
    refine ⟨hl.symm, fun j x hx => ?_⟩
    have hj : j < Vs.size := by rw [← hl]; exact (List.getElem?_eq_some_iff.1 hx).1
    exact ⟨Vs[j], by simp [Value.cells, hj], h1 j _ (by simp [hj]), h2 j x _ hx (by simp [hj])⟩
  | _ => exact one h' rfl rfl (by simpa [AV.cells] using hc)

/-- Cells that lie at an address. -/
def CellsAt (c : Cx) (b o : Nat) (cs : List AV) : Prop := ∀ (j : Nat) (x : AV), cs[j]? = some x → ∃ V, c.w.cell? ⟨b, o + j, none⟩ = some V ∧ V.oneCell' = true ∧ Rel c x V

theorem CellsAt.drop {c : Cx} {b o : Nat} {cs : List AV} (h : CellsAt c b o cs) (k : Nat) : CellsAt c b (o + k) (cs.drop k) := fun j x hx => by
  rw [List.getElem?_drop] at hx
  have := h (k + j) x hx
  rwa [← Nat.add_assoc] at this

theorem add_spot (b o n : Nat) : (⟨b, o, none⟩ : Addr).add n = ⟨b, o + n, none⟩ := by
  unfold Addr.add
  split
  · subst_vars; rfl
  · rfl

theorem cell_at {w : World} {b o : Nat} {cells : Array Value} {T : TypeId} {fr : Nat × Nat} (h : w.heap[b]? = some (.cells cells T fr)) : w.cell? ⟨b, o, none⟩ = cells[o]? := by
  simp [World.cell?, h]

theorem run_un {P : Program} {t : TypeId} {d : TypeDesc} (h : P.underlying t = some d) (w : World) : (underlying t).run P w = .ok d w := run_underlying h w
theorem run_sz {P : Program} {t : TypeId} {n : Nat} (h : szOf P t = some n) (w : World) : (sizeOf t).run P w = .ok n w := by
  unfold szOf at h
  cases hi : P.info? t with
  | none => rw [hi] at h; cases h
  | some i => rw [hi] at h; cases h; simp [sizeOf, typeInfo, hi]
theorem run_agg {P : Program} {t : TypeId} {b : Bool} (h : aggOf P t = some b) (w : World) : (isAgg t).run P w = .ok b w := by
  unfold aggOf at h
  cases hi : P.underlying t with
  | none => rw [hi] at h; cases h
  | some d =>
    rw [hi] at h
    simp only [Option.map_some, Option.some.injEq] at h
    subst h
    unfold isAgg
    rw [Sem.run_bind, run_un hi]
    cases d <;> simp
theorem run_zr {P : Program} {t : TypeId} {x : AV} (h : zrOf P t = some x) (w : World) : ∃ V, (zeroValue t).run P w = .ok V w ∧ ∀ c, Rel c x V := by
  unfold zrOf at h
  cases hi : P.info? t with
  | none => rw [hi] at h; cases h
  | some i =>
    rw [hi] at h
    simp only [Option.bind_some] at h
    cases hz : i.zero with
    | none => rw [hz] at h; cases h
    | some V =>
      rw [hz] at h
      exact ⟨V, by simp [zeroValue, typeInfo, hi, hz], fun c => ofV_rel h⟩

/-! ### Loads -/
def ldCells (P : Program) (t : TypeId) (cs : List AV) : Option AV :=
  match aggOf P t, szOf P t with
  | some true, some n => if n ≤ cs.length then some (.agg (cs.take n)) else none
  | some false, _ => cs[0]?
  | _, _ => none

def vload (P : Program) (H : Hp) (t : TypeId) : AV → Option AV
  | .ptr l i k => match H[l]? with
    | some (.arr _ _ rows) | some (.frz _ rows) => match rows[i]? with
      | some r => ldCells P t (r.drop k)
      | none => none
    | some (.one _ cs) => if i = 0 then ldCells P t (cs.drop k) else none
    | _ => none
  | .iptr _ cs => ldCells P t cs
  | _ => none

theorem ld_sound {P : Program} {c : Cx} {t : TypeId} {b o : Nat} {cs : List AV} {x : AV} (h : CellsAt c b o cs) (hx : ldCells P t cs = some x) :
    ∃ V, (loadVar t ⟨b, o, none⟩).run P c.w = .ok V c.w ∧ Rel c x V := by
  unfold ldCells at hx
  split at hx
  · rename_i n ha hn
    split at hx
    · rename_i hle
      cases hx
      have hF : ∀ j, ∃ V, j < n → c.w.cell? ⟨b, o + j, none⟩ = some V ∧ V.oneCell' = true ∧ ∀ y, cs[j]? = some y → Rel c y V := fun j => by
        by_cases hj : j < n
        · obtain ⟨V, h1, h2, h3⟩ := h j cs[j] (List.getElem?_eq_getElem (by omega))
          refine ⟨V, fun _ => ⟨h1, h2, fun y hy => ?_⟩⟩
          rw [List.getElem?_eq_getElem (by omega)] at hy
          cases hy
          exact h3
        · exact ⟨undef, fun h => absurd h hj⟩
      have hl := run_loadCells (P := P) c.w ⟨b, o, none⟩ n (fun j => (hF j).choose) (fun j hj => by rw [add_spot]; exact ((hF j).choose_spec hj).1)
      refine ⟨.agg ((List.range n).map (fun j => (hF j).choose)).toArray, ?_, ?_⟩
      · unfold loadVar
        simp [run_agg ha, run_sz hn, hl]
      · refine .agg _ _ (by simp; omega) (fun j V hV => ?_) (fun j y V hy hV => ?_)
        · simp only [List.getElem?_toArray, List.getElem?_map] at hV
          by_cases hj : j < n
          · rw [List.getElem?_range hj] at hV
            cases hV
            exact ((hF j).choose_spec hj).2.1
          · rw [List.getElem?_eq_none (by simp; omega)] at hV
            cases hV
        · simp only [List.getElem?_toArray, List.getElem?_map] at hV
          by_cases hj : j < n
          · rw [List.getElem?_range hj] at hV
            cases hV
            rw [List.getElem?_take, if_pos hj] at hy
            exact ((hF j).choose_spec hj).2.2 y hy
          · rw [List.getElem?_eq_none (by simp; omega)] at hV
            cases hV
    · cases hx
  · rename_i ha
    obtain ⟨V, h1, h2, h3⟩ := h 0 x hx
    refine ⟨V, ?_, h3⟩
    unfold loadVar
    simp only [Nat.add_zero] at h1
    simp [run_agg ha, h1]
  · cases hx

theorem RowsAt.cells {c : Cx} {b base sz i k : Nat} {cells : Array Value} {T : TypeId} {fr : Nat × Nat} {rows : List (List AV)} {r : List AV}
    (hh : c.w.heap[b]? = some (.cells cells T fr)) (h : RowsAt c cells base sz rows) (hr : rows[i]? = some r) : CellsAt c b (base + i * sz + k) (r.drop k) := fun j x hx => by
  rw [List.getElem?_drop] at hx
  obtain ⟨V, h1, h2, h3⟩ := (h i r hr).2 (k + j) x hx
  exact ⟨V, by rw [cell_at hh, ← h1]; congr 1; omega, h2, h3⟩

/-- What a reading at a pointer finds. -/
theorem ptr_cells {c : Cx} {H : Hp} (s : Sim c H) {l i k : Nat} {V : Value} (hV : Rel c (.ptr l i k) V) {rows : List (List AV)} {r : List AV}
    (hl : (∃ T sz, H[l]? = some (.arr T sz rows)) ∨ ∃ sz, H[l]? = some (.frz sz rows)) (hr : rows[i]? = some r) : ∃ b o, V = .pointer (some ⟨b, o, none⟩) ∧ CellsAt c b o (r.drop k) := by
  cases hV with
  | ptr _ _ _ cl h =>
    rcases hl with ⟨T, sz, hl⟩ | ⟨sz, hl⟩
    · obtain ⟨cl', cells, e1, e2, e3, e4, e5, e6, e7⟩ := s.obj l _ hl
      rw [h] at e1
      cases e1
      exact ⟨_, _, rfl, RowsAt.cells e3 (e2 ▸ e7) hr⟩
    · obtain ⟨e0, cl', cells, T, fr, e1, e2, e3, e4, e5, e6⟩ := s.obj l _ hl
      rw [h] at e1
      cases e1
      exact ⟨_, _, rfl, RowsAt.cells e3 (e2 ▸ e6) hr⟩

theorem iptr_cells {c : Cx} {bo : Bool} {cs : List AV} {V : Value} (hV : Rel c (.iptr bo cs) V) : ∃ b o, V = .pointer (some ⟨b, o, none⟩) ∧ CellsAt c b o cs := by
  cases hV with
  | iptr _ _ b o F hb hv h1 h2 =>
    refine ⟨b, o, rfl, fun j x hx => ?_⟩
    have hj := (List.getElem?_eq_some_iff.1 hx).1
    exact ⟨F j, (h1 j hj).1, (h1 j hj).2, h2 j x hx⟩

theorem load_sound {P : Program} {c : Cx} {H : Hp} (s : Sim c H) {t : TypeId} {v x : AV} {V : Value} (hV : Rel c v V) (hx : vload P H t v = some x) :
    ∃ X, (Instr.loadAt t V).run P c.w = .ok X c.w ∧ Rel c x X := by
  unfold vload at hx
  split at hx
  · rename_i l i k
    have key : ∀ {rows : List (List AV)}, ((∃ T sz, H[l]? = some (.arr T sz rows)) ∨ ∃ sz, H[l]? = some (.frz sz rows)) → (match rows[i]? with | some r => ldCells P t (r.drop k) | none => none) = some x → ∃ X, (Instr.loadAt t V).run P c.w = .ok X c.w ∧ Rel c x X := by
      intro rows hl hx
      split at hx
      · rename_i r hr
        obtain ⟨b, o, rfl, hc⟩ := ptr_cells s hV hl hr
        obtain ⟨X, h1, h2⟩ := ld_sound hc hx
        exact ⟨X, by simpa [Instr.loadAt, Instr.sureAddr] using h1, h2⟩
      · cases hx
    split at hx
    · rename_i T sz rows hl
      exact key (.inl ⟨T, sz, hl⟩) hx
    · rename_i sz rows hl
      exact key (.inr ⟨sz, hl⟩) hx
    · rename_i T cs hl
      split at hx
      · rename_i hi
        subst hi
        obtain ⟨cl', cells, e1, e2, e3, e4, e5, e6, e7, e8, e9⟩ := s.obj l _ hl
        cases hV with
        | ptr _ _ _ cl hρ =>
          rw [hρ] at e1
          cases e1
          obtain ⟨X, h1, h2⟩ := ld_sound (RowsAt.cells (k := k) e3 (e2 ▸ e7) (i := 0) rfl) hx
          exact ⟨X, by simpa [Instr.loadAt, Instr.sureAddr] using h1, h2⟩
      · cases hx
    · cases hx
  · obtain ⟨b, o, rfl, hc⟩ := iptr_cells hV
    obtain ⟨X, h1, h2⟩ := ld_sound hc hx
    exact ⟨X, by simpa [Instr.loadAt, Instr.sureAddr] using h1, h2⟩
  · cases hx

/-! ### Stores -/
def setC (r : List AV) (k : Nat) (cs : List AV) : List AV := r.take k ++ cs ++ r.drop (k + cs.length)

def vstore (P : Program) (H : Hp) (t : TypeId) (p x : AV) : Option Hp :=
  match p with
  | .ptr l i k => match H[l]? with
    | some (.one T r) => match x.cells, szOf P t with
      | some cs, some n => if cs.length = n ∧ k + n ≤ r.length ∧ n ≠ 0 ∧ i = 0 then some (H.set l (.one T (setC r k cs))) else none
      | _, _ => none
    | some (.arr T sz rows) => match rows[i]?, x.cells, szOf P t with
      | some r, some cs, some n => if cs.length = n ∧ k + n ≤ r.length ∧ n ≠ 0 then some (H.set l (.arr T sz (rows.set i (setC r k cs)))) else none
      | _, _, _ => none
    | _ => none
  | _ => none

theorem setC_length {r cs : List AV} {k : Nat} (h : k + cs.length ≤ r.length) : (setC r k cs).length = r.length := by
  simp [setC]; omega
theorem setC_get {r cs : List AV} {k : Nat} (h : k + cs.length ≤ r.length) (j : Nat) : (setC r k cs)[j]? = if k ≤ j ∧ j < k + cs.length then cs[j - k]? else r[j]? := by
  unfold setC
  rw [List.append_assoc]
  by_cases h1 : j < k
  · rw [List.getElem?_append_left (by simp; omega), List.getElem?_take, if_pos h1, if_neg (by omega)]
  · rw [List.getElem?_append_right (by simp; omega)]
    have hk : (r.take k).length = k := by simp; omega
    rw [hk]
    by_cases h2 : j < k + cs.length
    · rw [List.getElem?_append_left (by omega), if_pos (by omega)]
    · rw [List.getElem?_append_right (by omega), if_neg (by omega), List.getElem?_drop]
      congr 1
      omega

theorem splice_get (cur : List Value) (vs : List Value) (o : Nat) (h : o + vs.length ≤ cur.length) (j : Nat) :
    (cur.take o ++ vs ++ cur.drop (o + vs.length))[j]? = if o ≤ j ∧ j < o + vs.length then vs[j - o]? else cur[j]? := by
  rw [List.append_assoc]
  by_cases h1 : j < o
  · rw [List.getElem?_append_left (by simp; omega), List.getElem?_take, if_pos h1, if_neg (by omega)]
  · have hk : (cur.take o).length = o := by simp; omega
    rw [List.getElem?_append_right (by simp; omega), hk]
    by_cases h2 : j < o + vs.length
    · rw [List.getElem?_append_left (by omega), if_pos (by omega)]
    · rw [List.getElem?_append_right (by omega), if_neg (by omega), List.getElem?_drop]
      congr 1
      omega

theorem setRow_other {w : World} {g b : Nat} {cells : Array Value} (h : b ≠ g) : (w.setRow g cells).heap[b]? = w.heap[b]? := by
  simp only [World.setRow, Array.getElem?_modify]
  rw [if_neg (Ne.symm h)]

/-- Cells stored at an address of an object's block: what the block is then. -/
theorem run_put {P : Program} {w : World} {b o : Nat} {cells : Array Value} {T : TypeId} {vs : List Value} (hh : w.heap[b]? = some (.cells cells T (0, 0))) (hl : o + vs.length ≤ cells.size) (h1 : ∀ v ∈ vs, v.oneCell' = true) :
    ∃ w' cells', (storeCells ⟨b, o, none⟩ vs 0).run P w = .ok () w' ∧ w'.heap[b]? = some (.cells cells' T (0, 0)) ∧ cells'.size = cells.size ∧
      (∀ j, cells'[j]? = if o ≤ j ∧ j < o + vs.length then vs[j - o]? else cells[j]?) ∧ w'.heap.size = w.heap.size ∧ (∀ k, k ≠ b → w'.heap[k]? = w.heap[k]?) ∧ w'.os = w.os ∧ w'.tape = w.tape ∧ w'.output = w.output := by
  refine ⟨_, _, by simpa using run_storeCells_at (P := P) b o T vs 0 cells w hh (by simpa using hl) h1, setRow_heap w b cells _ T _ hh, by simp; omega, fun j => ?_, by simp [World.setRow], fun k hk => setRow_other hk, rfl, rfl, rfl⟩
  simpa using splice_get cells.toList vs o (by simpa using hl) j
end Go.Vi
