/- Vi, part K: copy, bytes and texts, max and min, nil checks. -/
import Derived.Test.YtecjobmgphdjoaaGreatViJ
set_option autoImplicit false
set_option linter.unusedVariables false
set_option linter.unusedSimpArgs false
namespace Go.Vi

/-- Several rows are written. -/
theorem RowsAt.putRows {c : Cx} {cells cells' : Array Value} {base sz i m : Nat} {rows news : List (List AV)} {vs : List Value} (h : RowsAt c cells base sz rows) (hf : FlatRows c vs sz news) (hm : m ≤ news.length) (hi : i + m ≤ rows.length)
    (hc : ∀ j, cells'[j]? = if base + i * sz ≤ j ∧ j < base + i * sz + m * sz then vs[j - (base + i * sz)]? else cells[j]?) :
    RowsAt c cells' base sz (rows.take i ++ news.take m ++ rows.drop (i + m)) := by
  intro q r hr
  have h1 : (rows.take i).length = i := by simp; omega
  have h2 : (news.take m).length = m := by simp; omega
  rw [List.append_assoc] at hr
  have old : rows[q]? = some r → (q < i ∨ i + m ≤ q) → r.length = sz ∧ ∀ (j : Nat) (x : AV), r[j]? = some x → ∃ V, cells'[base + q * sz + j]? = some V ∧ V.oneCell' = true ∧ Rel c x V := by
    intro hr hq
    obtain ⟨g1, g2⟩ := h q r hr
    refine ⟨g1, fun j x hx => ?_⟩
    have hj : j < sz := by rw [← g1]; exact (List.getElem?_eq_some_iff.1 hx).1
    obtain ⟨V, v1, v2, v3⟩ := g2 j x hx
    refine ⟨V, ?_, v2, v3⟩
    rw [hc, if_neg]
    · exact v1
    · rcases hq with hq | hq
      · have := mul_lt_row hq hj
        omega
      · have := Nat.mul_le_mul_right sz hq
        rw [Nat.add_mul] at this
        omega
  by_cases hq : q < i
  · rw [List.getElem?_append_left (by omega), List.getElem?_take, if_pos hq] at hr
    exact old hr (.inl hq)
  · rw [List.getElem?_append_right (by omega), h1] at hr
    by_cases hq2 : q < i + m
    · rw [List.getElem?_append_left (by omega), List.getElem?_take, if_pos (by omega)] at hr
      obtain ⟨g1, g2⟩ := hf.2 _ r hr
      refine ⟨g1, fun j x hx => ?_⟩
      have hj : j < sz := by rw [← g1]; exact (List.getElem?_eq_some_iff.1 hx).1
      obtain ⟨V, v1, v2, v3⟩ := g2 j x hx
      refine ⟨V, ?_, v2, v3⟩
      have e : q * sz = i * sz + (q - i) * sz := by rw [← Nat.add_mul]; congr 1; omega
      have hlt := mul_lt_row (show q - i < m by omega) hj
      rw [hc, if_pos (by omega), ← v1]
      congr 1
      omega
    · rw [List.getElem?_append_right (by omega), h2, List.getElem?_drop] at hr
      refine old ?_ (.inr (by omega))
      rw [← hr]
      congr 1
      omega

theorem FlatRows.cells {c : Cx} {sz : Nat} : ∀ {rows : List (List AV)} {vs : List Value}, FlatRows c vs sz rows → rows.flatten.length = vs.length ∧ ∀ (j : Nat) (x : AV), rows.flatten[j]? = some x → ∃ V, vs[j]? = some V ∧ V.oneCell' = true ∧ Rel c x V
  | [], vs, h => ⟨by have := h.1; simp at this; simp [this], fun j x hx => by simp at hx⟩
  | r :: rs, vs, h => by
    have hl := h.1
    simp only [List.length_cons, Nat.add_mul, Nat.one_mul] at hl
    have h0 := h.2 0 r (by simp)
    have ht : FlatRows c (vs.drop sz) sz rs := ⟨by rw [List.length_drop]; omega, fun i r' hr' => by
      obtain ⟨g1, g2⟩ := h.2 (i + 1) r' (by simpa using hr')
      refine ⟨g1, fun j x hx => ?_⟩
      obtain ⟨U, u1, u2, u3⟩ := g2 j x hx
      refine ⟨U, ?_, u2, u3⟩
      rw [List.getElem?_drop, ← u1, Nat.add_mul]
      congr 1
      omega⟩
    obtain ⟨i1, i2⟩ := FlatRows.cells ht
    rw [List.length_drop] at i1
    refine ⟨by rw [List.flatten_cons, List.length_append, i1, h0.1]; omega, fun j x hx => ?_⟩
    rw [List.flatten_cons] at hx
    by_cases hj : j < r.length
    · rw [List.getElem?_append_left hj] at hx
      obtain ⟨U, u1, u2, u3⟩ := h0.2 j x hx
      exact ⟨U, by simpa using u1, u2, u3⟩
    · rw [List.getElem?_append_right (by omega)] at hx
      obtain ⟨U, u1, u2, u3⟩ := i2 _ x hx
      refine ⟨U, ?_, u2, u3⟩
      rw [List.getElem?_drop] at u1
      rw [← u1]
      congr 1
      have := h0.1
      omega

theorem FlatRows.take {c : Cx} {vs : List Value} {sz m : Nat} {rows : List (List AV)} (h : FlatRows c vs sz rows) (hm : m ≤ rows.length) : FlatRows c (vs.take (m * sz)) sz (rows.take m) := by
  have hle : m * sz ≤ rows.length * sz := Nat.mul_le_mul_right sz hm
  refine ⟨by rw [List.length_take, List.length_take, h.1, Nat.min_eq_left hm, Nat.min_eq_left hle], fun i r hr => ?_⟩
  rw [List.getElem?_take] at hr
  split at hr
  · rename_i hi
    obtain ⟨g1, g2⟩ := h.2 i r hr
    refine ⟨g1, fun j x hx => ?_⟩
    obtain ⟨U, u1, u2, u3⟩ := g2 j x hx
    refine ⟨U, ?_, u2, u3⟩
    have hj : j < sz := by rw [← g1]; exact (List.getElem?_eq_some_iff.1 hx).1
    rw [List.getElem?_take, if_pos (mul_lt_row hi hj)]
    exact u1
  · cases hr

def vcopy (P : Program) (H : Hp) (t : TypeId) (d x : AV) : Option (AV × Hp) :=
  match elemAt P t, srcRows H x with
  | some (none, e, sz), some rows => if lenOk sz rows = true ∧ sz ≠ 0 ∧ (x.isStr = true → sz = 1) then match d with
      | .nils => some (.int .i64 0, H)
      | .list _ old => if rows.length = 0 ∨ old.length = 0 then some (.int .i64 0, H) else none
      | .row _ l i n => match H[l]? with
        | some (.arr T sz' rows0) => if sz' = sz ∧ i + n ≤ rows0.length then
            some (.int .i64 (min rows.length n : Nat), H.set l (.arr T sz (rows0.take i ++ rows.take (min rows.length n) ++ rows0.drop (i + min rows.length n)))) else none
        | _ => none
      | .sub l i k es n => match H[l]? with
        | some (.arr T sz' rows0) => match rows0[i]? with
          | some r => if es = sz ∧ k + n * es ≤ r.length then
              some (.int .i64 (min rows.length n : Nat), H.set l (.arr T sz' (rows0.set i (setC r k (rows.take (min rows.length n)).flatten)))) else none
          | none => none
        | _ => none
      | _ => none
    else none
  | _, _ => none

theorem copy_run {P : Program} {w : World} {t t2 ty e : TypeId} {sz : Nat} (hu : P.underlying t = some (.slice e)) (hsz : szOf P e = some sz) {base : Option Addr} {n cap m : Nat} {Y : Value} {vs : List Value}
    (hlen : (Builtin.lenOf Y).run P w = .ok m w) (hf : (Builtin.firstCells sz (min m n) Y).run P w = .ok vs.toArray w) {w' : World} (hs : ∀ a, base = some a → (storeCells a vs 0).run P w = .ok () w') (hb : base = none → w' = w) :
    (Builtin.copy_ #[t, t2] ty #[.slice base n cap, Y]).run P w = .ok (.int .i64 (min m n : Nat)) w' := by
  simp only [Builtin.copy_, Sem.run_bind, List.getElem?_toArray, List.getElem?_cons_zero, List.getElem?_cons_succ, run_un hu, Result.andThen_ok, hlen, run_sz hsz]
  have e : Nat.min m n = min m n := rfl
  rw [e, hf]
  cases base with
  | none =>
    have := hb rfl
    subst this
    rfl
  | some a =>
    simp only [Result.andThen_ok, Sem.run_bind]
    rw [hs a rfl]
    rfl

theorem copy_sound {P : Program} {c : Cx} {H H' : Hp} (s : Sim c H) {t t2 ty : TypeId} {d x v : AV} {D X : Value} (hD : Rel c d D) (hX : Rel c x X) (h : vcopy P H t d x = some (v, H')) :
    Yields P c H (Builtin.copy_ #[t, t2] ty #[D, X]) v H' := by
  unfold vcopy at h
  split at h
  · rename_i e sz rows he hsrc
    obtain ⟨hsz, hu⟩ := elemAt_of he
    have hu := (hu.resolve_right (fun h => by obtain ⟨_, h, _⟩ := h; cases h)).2
    split at h
    · rename_i hc
      obtain ⟨c1, c2, c3⟩ := hc
      obtain ⟨vs, g1, g2, g3⟩ := src_flat (P := P) s hX hsrc c1 c2 (fun b e => c3 (by rw [e]; rfl))
      have hf : ∀ n, (Builtin.firstCells sz (min rows.length n) X).run P c.w = .ok (vs.take (min rows.length n * sz)).toArray c.w := fun n => g3 _ c.w (Nat.min_le_left _ _) (fun _ => rfl)
      split at h
      · cases h
        cases hD
        refine Yields.same s (V := .int .i64 0) ?_ (.int _ _)
        have := copy_run (P := P) (t2 := t2) (ty := ty) (base := none) (n := 0) (cap := 0) hu hsz (g2 c.w) (hf 0) (w' := c.w) (fun a h => by cases h) (fun _ => rfl)
        rw [this, Nat.min_zero]
        rfl
      · rename_i tg old
        split at h
        · rename_i h0
          cases h
          cases hD with
          | list _ _ b o sz' cap sp hsp F hb hc ht hs hv h1 h2 =>
            have hm : min rows.length old.length = 0 := by omega
            refine Yields.same s (V := .int .i64 0) ?_ (.int _ _)
            have := copy_run (P := P) (t2 := t2) (ty := ty) (base := some ⟨b, o, sp⟩) (n := old.length) (cap := cap) hu hsz (g2 c.w) (hf old.length) (w' := c.w) (fun a h => by cases h; rw [hm, Nat.zero_mul]; simp [storeCells]) (fun h => by cases h)
            rw [this, hm]
            rfl
        · cases h
      · rename_i tt l i n
        split at h
        · rename_i T sz' rows0 hl
          split at h
          · rename_i hcond
            obtain ⟨d1, d2⟩ := hcond
            subst d1
            cases h
            cases hD with
            | row _ _ _ _ cl o cap hρ ho hn ht hlim =>
              obtain ⟨cl0, cells, e1, e2, e3, e4, e5, e6, e7⟩ := s.obj l _ hl
              rw [hρ] at e1
              cases e1
              subst e2
              have hm1 : min rows.length n ≤ rows.length := Nat.min_le_left _ _
              have hm2 : min rows.length n ≤ n := Nat.min_le_right _ _
              have hvl : (vs.take (min rows.length n * cl.sz)).length = min rows.length n * cl.sz := by
                rw [List.length_take, g1.1]
                exact Nat.min_eq_left (Nat.mul_le_mul_right _ hm1)
              have one : ∀ v ∈ vs.take (min rows.length n * cl.sz), v.oneCell' = true := fun v hv => g1.one c2 v (List.mem_of_mem_take hv)
              by_cases h0 : min rows.length n = 0
              · have hset : H.set l (.arr T cl.sz (rows0.take i ++ rows.take (min rows.length n) ++ rows0.drop (i + min rows.length n))) = H := by
                  rw [h0, List.take_zero, List.append_nil, Nat.add_zero, List.take_append_drop]
                  obtain ⟨hi, hx⟩ := List.getElem?_eq_some_iff.1 hl
                  rw [← hx]
                  exact List.set_getElem_self hi
                rw [hset]
                refine Yields.same s (V := .int .i64 (min rows.length n : Nat)) ?_ (.int _ _)
                exact copy_run hu hsz (g2 c.w) (hf n) (fun a ha => by rw [h0, Nat.zero_mul]; simp [storeCells]) (fun _ => rfl)
              · have hcap : cap ≠ 0 := by omega
                have ho' := ho
                have hl2 := Nat.le_of_eq hlim
                have h3 : min rows.length n * cl.sz ≤ cap * cl.sz := Nat.mul_le_mul_right _ (by omega)
                obtain ⟨w', cells', hrun, f1, f2, f3, f4, f5, f6, f7, f8⟩ := run_put (P := P) (o := o) e3 (by rw [hvl]; omega) one
                refine ⟨.int .i64 (min rows.length n : Nat), { c with w := w' }, ?_, To.write s ⟨_, hl, rfl⟩ hρ _ f4 f5 f6 f7 f8 (fun m => ⟨cl, cells', hρ, rfl, f1, f2.trans e4, e5, e6, ?_⟩), .int _ _⟩
                · exact copy_run hu hsz (g2 c.w) (hf n) (fun a ha => by cases ha; exact hrun) (fun h => by cases h)
                · refine (e7.mono m).putRows (g1.mono m) hm1 (by omega) (fun j => ?_)
                  rw [f3, hvl, ho']
                  split
                  · rename_i hj
                    rw [List.getElem?_take, if_pos (by omega)]
                  · rfl
          · cases h
        · cases h
      · rename_i l i k es n
        split at h
        · rename_i T sz' rows0 hl
          split at h
          · rename_i r hr
            split at h
            · rename_i hcond
              obtain ⟨d1, d2⟩ := hcond
              subst d1
              cases h
              cases hD with
              | sub _ _ _ _ _ cl o cap hρ ho hn =>
                obtain ⟨cl0, cells, e1, e2, e3, e4, e5, e6, e7⟩ := s.obj l _ hl
                rw [hρ] at e1
                cases e1
                subst e2
                have hm1 : min rows.length n ≤ rows.length := Nat.min_le_left _ _
                have hm2 : min rows.length n ≤ n := Nat.min_le_right _ _
                have hmn : min rows.length n * es ≤ n * es := Nat.mul_le_mul_right _ hm2
                have hvl : (vs.take (min rows.length n * es)).length = min rows.length n * es := by
                  rw [List.length_take, g1.1]
                  exact Nat.min_eq_left (Nat.mul_le_mul_right _ hm1)
                have one : ∀ v ∈ vs.take (min rows.length n * es), v.oneCell' = true := fun v hv => g1.one c2 v (List.mem_of_mem_take hv)
                have hrl := (e7 i r hr).1
                by_cases h0 : n = 0
                · subst h0
                  have hz : min rows.length 0 = 0 := Nat.min_zero _
                  have hset : H.set l (.arr T cl.sz (rows0.set i (setC r k (rows.take (min rows.length 0)).flatten))) = H := by
                    have h1 : setC r k (rows.take (min rows.length 0)).flatten = r := by rw [hz]; simp [setC]
                    rw [h1]
                    have h2 : rows0.set i r = rows0 := by
                      obtain ⟨hi, rfl⟩ := List.getElem?_eq_some_iff.1 hr
                      exact List.set_getElem_self hi
                    rw [h2]
                    obtain ⟨hi, hx⟩ := List.getElem?_eq_some_iff.1 hl
                    rw [← hx]
                    exact List.set_getElem_self hi
                  rw [hset]
                  refine Yields.same s (V := .int .i64 (min rows.length 0 : Nat)) ?_ (.int _ _)
                  exact copy_run hu hsz (g2 c.w) (hf 0) (fun a ha => by rw [hz, Nat.zero_mul]; simp [storeCells]) (fun _ => rfl)
                · have ho' := ho.resolve_right h0
                  have hfit : o + (vs.take (min rows.length n * es)).length ≤ cells.size := by
                    rw [hvl]
                    by_cases h3 : min rows.length n * es = 0
                    · have h4 : n * es ≠ 0 := Nat.mul_ne_zero h0 c2
                      have := RowsAt.lim e7 hr (show k < cl.sz by omega)
                      omega
                    · have := RowsAt.lim e7 hr (show k + min rows.length n * es - 1 < cl.sz by omega)
                      omega
                  obtain ⟨w', cells', hrun, f1, f2, f3, f4, f5, f6, f7, f8⟩ := run_put (P := P) e3 hfit one
                  refine ⟨.int .i64 (min rows.length n : Nat), { c with w := w' }, ?_, To.write s ⟨_, hl, rfl⟩ hρ _ f4 f5 f6 f7 f8 (fun m => ⟨cl, cells', hρ, rfl, f1, f2.trans e4, e5, e6, ?_⟩), .int _ _⟩
                  · exact copy_run hu hsz (g2 c.w) (hf n) (fun a ha => by cases ha; exact hrun) (fun h => by cases h)
                  · have hcs := ((g1.take hm1).mono m).cells
                    refine RowsAt.put (e7.mono m) hr (by rw [hcs.1, hvl]; omega) hcs.1.symm hcs.2 (fun j => ?_)
                    rw [f3, ho']
            · cases h
          · cases h
        · cases h
      · cases h
    · cases h
  · cases h

/-! ### Bytes and texts -/
def numsOf : List (List AV) → Option (List Int)
  | [] => some []
  | [.int .u8 n] :: r => match numsOf r with
    | some l => some (n :: l)
    | none => none
  | _ => none

theorem numsOf_get : ∀ {rows : List (List AV)} {xs : List Int}, numsOf rows = some xs → xs.length = rows.length ∧ ∀ (i : Nat) (r : List AV), rows[i]? = some r → r = [.int .u8 (xs.getD i 0)]
  | [], xs, h => by cases h; exact ⟨rfl, fun i r hr => by cases hr⟩
  | row :: rs, xs, h => by
    unfold numsOf at h
    split at h
    · rename_i heq; cases heq
    · rename_i n r' heq
      cases heq
      split at h
      · rename_i l hl
        cases h
        obtain ⟨i1, i2⟩ := numsOf_get hl
        refine ⟨by simp [i1], fun i r hr => ?_⟩
        cases i with
        | zero => simp at hr; subst hr; rfl
        | succ i => simpa using i2 i r (by simpa using hr)
      · cases h
    · cases h

def vconv (P : Program) (H : Hp) (src dst : TypeId) (x : AV) : Option AV :=
  match P.underlying src, P.underlying dst, x with
  | some (.slice e), some .string, x => match P.underlying e, rowsOf H x with
    | some (.int .u8), some rows => (numsOf rows).map fun xs => .str (strOfNums xs)
    | _, _ => none
  | some .string, some (.slice e), .str s => match P.underlying e with
    | some (.int .u8) => some (.list .loose (strRows s))
    | _ => none
  | _, _, _ => vconvInt P src dst x

theorem numsOf_len {rows : List (List AV)} {xs : List Int} (h : numsOf rows = some xs) : lenOk 1 rows = true := by
  refine List.all_eq_true.2 (fun r hr => ?_)
  obtain ⟨i, hi⟩ := List.mem_iff_getElem?.1 hr
  rw [(numsOf_get h).2 i r hi]
  rfl

/-- A block that is never written again. -/
theorem To.newI {c : Cx} {H : Hp} (s : Sim c H) {w' : World} (hsz : c.w.heap.size < w'.heap.size) (hh : ∀ b, b < c.w.heap.size → w'.heap[b]? = c.w.heap[b]?) (h1 : w'.os = c.w.os) (h2 : w'.tape = c.w.tape) (h3 : w'.output = c.w.output) :
    To c H { c with w := w', I := fun b => c.I b ∨ b = c.w.heap.size } H := by
  have m : Mono c { c with w := w', I := fun b => c.I b ∨ b = c.w.heap.size } := ⟨fun _ h => .inl h, fun _ h => h, fun _ _ h => h, fun b h => hh b (h.elim (s.bound b) (s.boundB b))⟩
  refine ⟨⟨m, by show c.w.heap.size ≤ w'.heap.size; omega, fun b hb _ => hh b hb, fun b h => h.elim .inl (fun e => .inr (.inl (by omega))), fun _ => Iff.rfl, fun _ _ h => .inl h, h1, h2, h3⟩, ⟨fun b hb => ?_, fun b hb => ?_, fun l o h => ?_, s.inj, s.fresh⟩, Nat.le_refl _, fun _ _ h => h⟩
  · show b < w'.heap.size
    rcases hb with hb | hb
    · have := s.bound b hb; omega
    · omega
  · show b < w'.heap.size
    have := s.boundB b hb; omega
  · refine (s.obj l o h).keep m (fun cl hr hv hi => ?_) (fun _ h => h) (fun cl hr hv => hh _ (s.lt (live_of h hv) hr))
    rcases hi with hi | hi
    · exact hi
    · have := s.lt (live_of h hv) hr; omega

theorem conv_sound {P : Program} {c : Cx} {H : Hp} (s : Sim c H) {src dst : TypeId} {x v : AV} {X : Value} (hX : Rel c x X) (h : vconv P H src dst x = some v) : Yields P c H (convert src dst X) v H := by
  unfold vconv at h
  split at h
  · rename_i x' e hs hd
    split at h
    · rename_i rows he hr
      cases hn : numsOf rows with
      | none => rw [hn] at h; cases h
      | some xs =>
        rw [hn] at h
        cases h
        obtain ⟨n1, n2⟩ := numsOf_get hn
        have hsl := rows_sound s hX hr (numsOf_len hn)
        refine Yields.same s (V := .string (strOfNums xs)) ?_ (.str _)
        rcases hsl with ⟨base, cap, rfl, rfl⟩ | ⟨b, o, cap, rfl, hc⟩
        · have : xs = [] := List.eq_nil_of_length_eq_zero (by simpa using n1)
          subst this
          cases base with
          | none => exact run_convert_bytes_nil c.w src e hs he 0 cap dst hd
          | some a =>
            have hl := run_loadCells_list (P := P) c.w a [] (fun j v h => by cases h)
            have hl' : (loadCells a 0).run P c.w = .ok (([] : List Int).map (Value.int .u8)).toArray c.w := by simpa using hl
            rw [run_convert_bytes_string c.w src dst e _ 0 cap hs he hd, run_bytesToString c.w a 0 cap [] hl']
            rfl
        · refine run_convert_bytes_arg c.w src e hs he b o rows.length cap xs n1 (fun i hi => ?_) dst hd
          have hr' : rows[i]? = some rows[i] := List.getElem?_eq_getElem hi
          obtain ⟨_, g2⟩ := hc i _ hr'
          rw [n2 i _ hr'] at g2
          obtain ⟨V, v1, v2, v3⟩ := g2 0 _ rfl
          cases v3
          simpa using v1
    · cases h
  · rename_i e sb hs hd
    split at h
    · rename_i he
      cases h
      cases hX
      obtain ⟨cp, hcp⟩ : ∃ m, m = (Question.appendCap sb.size 0 e).cut (c.w.tape c.w.drawn (.appendCap sb.size 0 e)) := ⟨_, rfl⟩
      have hle : sb.size ≤ cp := by rw [hcp]; simp only [Question.cut]; omega
      let cells : Array Value := sb.data.map (fun b => .int .u8 b.toNat) ++ Array.replicate (cp - sb.size) (.int .u8 0)
      have hsize : cells.size = cp := by
        have : sb.data.size = sb.size := rfl
        simp [cells]; omega
      let w1 : World := { c.w.drew with heap := c.w.heap.push (.cells cells e) }
      let w' : World := w1.freeze ⟨c.w.heap.size, cells.size, none⟩ 1
      have hrun : (convert src dst (.string sb)).run P c.w = .ok (.slice (some ⟨c.w.heap.size, 0, none⟩) sb.size cp) w' := by
        have frc : (Question.appendCap sb.size 0 e).forced = false := rfl
        have hshape : w1.shape? c.w.heap.size = some (e, cells.size) := by simp [World.shape?, w1]
        have hw1 : ({ c.w with drawn := c.w.drawn + 1, heap := c.w.heap.push (.cells cells e) } : World) = w1 := rfl
        simp only [convert, Sem.run_bind, run_un hs, run_un hd, Result.andThen_ok, run_un he, Conv.stringToBytes, run_choose, frc, Bool.false_eq_true, if_false, ← hcp, newRow, run_newObj, Sem.run_pure, markStringish, run_shape]
        show (Sem.run P (match w1.shape? c.w.heap.size with | some (_, n) => freeze { block := c.w.heap.size, off := n } 1 | _ => pure ()) w1).andThen _ = _
        rw [hshape]
        rfl
      have hheap : ∀ b, w'.heap[b]? = if b = c.w.heap.size then some (.cells cells e (cells.size, cells.size + 1)) else c.w.heap[b]? := fun b => by
        simp only [w', World.freeze, Nat.one_ne_zero, if_false, Array.getElem?_modify, w1]
        by_cases hb : b = c.w.heap.size
        · subst hb
          simp
        · rw [if_neg (Ne.symm hb), if_neg hb, Array.getElem?_push, if_neg hb]
      have hws : w'.heap.size = c.w.heap.size + 1 := by simp [w', World.freeze, w1]
      have hnew : w'.heap[c.w.heap.size]? = some (.cells cells e (cells.size, cells.size + 1)) := by rw [hheap, if_pos rfl]
      have hget : ∀ (i : Nat) (h : i < sb.data.size), cells[i]? = some (.int .u8 (sb.data[i].toNat : Int)) := fun i h => by
        simp only [cells]
        rw [Array.getElem?_append_left (by rw [Array.size_map]; exact h), Array.getElem?_map, Array.getElem?_eq_getElem h]
        rfl
      have T := To.newI s (w' := w') (by omega) (fun b hb => by rw [hheap, if_neg (by omega)]) rfl rfl rfl
      refine ⟨_, _, hrun, T, ?_⟩
      have hlen : (strRows sb).length = sb.size := by unfold strRows; rw [List.length_map]; rfl
      have hrel := Rel.list (c := { c with w := w', I := fun b => c.I b ∨ b = c.w.heap.size }) .loose (strRows sb) c.w.heap.size 0 1 cp none (.inr rfl) (fun i j => cells.getD i undef) (.inr (.inr rfl)) (by omega) (fun h => by cases h)
        (fun r hr => by unfold strRows at hr; obtain ⟨b, _, rfl⟩ := List.mem_map.1 hr; rfl)
        (List.all_eq_true.2 (fun r hr => by unfold strRows at hr; obtain ⟨b, _, rfl⟩ := List.mem_map.1 hr; rfl))
        (fun i j hi hj => ?_) (fun i r j x hr hx => ?_)
      · rwa [hlen] at hrel
      · have hj0 : j = 0 := by omega
        subst hj0
        rw [hlen] at hi
        rw [cell_at hnew]
        have hi3 : i < sb.data.size := hi
        have e0 : 0 + i * 1 + 0 = i := by omega
        rw [e0, Array.getD_eq_getD_getElem?, hget i hi3]
        exact ⟨rfl, rfl⟩
      · unfold strRows at hr
        rw [List.getElem?_map] at hr
        cases hb : sb.data.toList[i]? with
        | none => rw [hb] at hr; cases hr
        | some b =>
          rw [hb] at hr
          cases hr
          have hi3 : i < sb.data.size := by have := (List.getElem?_eq_some_iff.1 hb).1; simpa using this
          have hbv : sb.data[i] = b := by
            have := (List.getElem?_eq_some_iff.1 hb).2
            simpa using this
          cases j with
          | succ j => simp at hx
          | zero =>
            simp at hx
            subst hx
            have : cells.getD i undef = .int .u8 (b.toNat : Int) := by rw [Array.getD_eq_getD_getElem?, hget i hi3, hbv]; rfl
            rw [this]
            exact .int _ _
    · cases h
  · obtain ⟨V, h1, h2⟩ := convInt_sound hX h
    exact Yields.same s h1 h2
end Go.Vi
