/- Vi, part Xa: append where there is room for sure, append of zeros, clear, cap. -/
import Derived.Test.YteejggadbifdbaaGreatViMa
set_option autoImplicit false
set_option linter.unusedVariables false
set_option linter.unusedSimpArgs false
namespace Go.Vi

theorem RowsAt.fits {c : Cx} {cells : Array Value} {base sz : Nat} {rows : List (List AV)} (h : RowsAt c cells base sz rows) (h0 : sz ≠ 0) (hne : rows.length ≠ 0) : base + rows.length * sz ≤ cells.size := by
  obtain ⟨g1, g2⟩ := h (rows.length - 1) _ (List.getElem?_eq_getElem (by omega))
  obtain ⟨V, v1, _⟩ := g2 (sz - 1) _ (List.getElem?_eq_getElem (by omega))
  have hlt := (Array.getElem?_eq_some_iff.1 v1).1
  have hm : (rows.length - 1) * sz + sz = rows.length * sz := by
    obtain ⟨q, hq⟩ : ∃ q, rows.length = q + 1 := ⟨rows.length - 1, by omega⟩
    rw [hq, Nat.add_sub_cancel, Nat.add_mul]; omega
  omega

/-- A row's room reaches as far as what is known of its block. -/
theorem row_room {c : Cx} {H : Hp} (s : Sim c H) {l sz i o cap : Nat} {T : TypeId} {rows : List (List AV)} {cl : CL} (hl : H[l]? = some (.arr T sz rows)) (h0 : sz ≠ 0) (hρ : c.ρ l = some cl) (ho : o = cl.base + i * cl.sz) (hlim : o + cap * cl.sz = cl.lim) : rows.length ≤ i + cap := by
  obtain ⟨cl0, cells, e1, e2, e3, e4, e5, e6, e7⟩ := s.obj l _ hl
  rw [hρ] at e1
  cases e1
  by_cases hne : rows.length = 0
  · omega
  · have h6 := e7.fits h0 hne
    subst e2
    have h7 : rows.length * cl.sz ≤ (i + cap) * cl.sz := by rw [Nat.add_mul]; omega
    exact Nat.le_of_mul_le_mul_right h7 (by omega)

/-- Rows of an object written over. -/
theorem put_in {P : Program} {c : Cx} {H : Hp} (s : Sim c H) {l sz i n o : Nat} {T : TypeId} {rows news : List (List AV)} {us : List Value} {cl : CL} (hl : H[l]? = some (.arr T sz rows)) (h0 : sz ≠ 0) (hρ : c.ρ l = some cl) (ho : o = cl.base + i * cl.sz)
    (hus : FlatRows c us sz news) (hne : news.length ≠ 0) (hi : i + n + news.length ≤ rows.length) :
    ∃ w', (storeCells ⟨cl.blk, o + n * sz, none⟩ us 0).run P c.w = .ok () w' ∧ To c H { c with w := w' } (H.set l (.arr T sz (rows.take (i + n) ++ news ++ rows.drop (i + n + news.length)))) := by
  obtain ⟨cl0, cells, e1, e2, e3, e4, e5, e6, e7⟩ := s.obj l _ hl
  rw [hρ] at e1
  cases e1
  subst e2
  have hfit := e7.fits h0 (by omega)
  have h1 : (i + n + news.length) * cl.sz ≤ rows.length * cl.sz := Nat.mul_le_mul_right _ hi
  rw [Nat.add_mul, Nat.add_mul] at h1
  obtain ⟨w', cells', hrun, f1, f2, f3, f4, f5, f6, f7, f8⟩ := run_put (P := P) (o := o + n * cl.sz) e3 (vs := us) (by rw [hus.1]; omega) (hus.one h0)
  refine ⟨w', hrun, To.write s ⟨_, hl, rfl⟩ hρ _ f4 f5 f6 f7 f8 (fun m => ⟨cl, cells', hρ, rfl, f1, f2.trans e4, e5, e6, ?_⟩)⟩
  have := (e7.mono m).putRows (cells' := cells') (i := i + n) (m := news.length) (hus.mono m) (Nat.le_refl _) hi (fun j => by
    rw [f3, hus.1, ho, Nat.add_mul]
    have e1 : cl.base + i * cl.sz + n * cl.sz = cl.base + (i * cl.sz + n * cl.sz) := by omega
    rw [e1])
  rwa [List.take_length] at this

theorem run_zcs {P : Program} {t : TypeId} {zc : List AV} (h : zcOf P t = some zc) :
    ∃ V, (∀ w, (zeroValue t).run P w = .ok V w) ∧ V.cells.size = zc.length ∧ ∀ (c : Cx) (j : Nat) (x : AV), zc[j]? = some x → ∃ U, V.cells[j]? = some U ∧ U.oneCell' = true ∧ Rel c x U := by
  unfold zcOf at h
  cases hz : zrOf P t with
  | none => rw [hz] at h; cases h
  | some z =>
    rw [hz] at h
    have hz' := hz
    unfold zrOf at hz'
    cases hi : P.info? t with
    | none => rw [hi] at hz'; cases hz'
    | some i =>
      rw [hi] at hz'
      simp only [Option.bind_some] at hz'
      cases hv : i.zero with
      | none => rw [hv] at hz'; cases hz'
      | some V =>
        rw [hv] at hz'
        have h2 : ∀ c, Rel c z V := fun c => ofV_rel hz'
        exact ⟨V, fun w => by simp [zeroValue, typeInfo, hi, hv], ((h2 ⟨default, fun _ => True, fun _ => True, fun _ => none⟩).cells h).1, fun c j x hx => ((h2 c).cells h).2 j x hx⟩

/-- What append takes: rows; as many zeros as told. -/
def newsOf (P : Program) (H : Hp) (d2 : TypeDesc) (by_ : Nat) (zc : List AV) (x : AV) : Option (List (List AV)) :=
  if isInt d2 = true then match x with
    | .int _ n => if 0 ≤ n ∧ n * (by_ : Int) ≤ 140737488355328 then some (List.replicate n.toNat zc) else none
    | _ => none
  else srcRows H x

theorem zero_flat {c : Cx} {sz n : Nat} {Z : Value} {zc : List AV} (hz : Z.cells.size = zc.length) (hsz : zc.length = sz) (h0 : sz ≠ 0) (hR : ∀ (j : Nat) (x : AV), zc[j]? = some x → ∃ U, Z.cells[j]? = some U ∧ U.oneCell' = true ∧ Rel c x U) :
    FlatRows c (Builtin.zeroCells Z.cells n).toList sz (List.replicate n zc) := by
  refine ⟨by simp [size_zeroCells, hz, hsz], fun i r hr => ?_⟩
  have hi : i < n := by have := (List.getElem?_eq_some_iff.1 hr).1; simpa using this
  have hr' : r = zc := List.eq_of_mem_replicate (List.mem_of_getElem? hr)
  subst hr'
  refine ⟨hsz, fun j x hx => ?_⟩
  obtain ⟨U, u1, u2, u3⟩ := hR j x hx
  refine ⟨U, ?_, u2, u3⟩
  have hj : j < sz := by rw [← hsz]; exact (List.getElem?_eq_some_iff.1 hx).1
  have hlt : i * sz + j < n * sz := mul_lt_row hi hj
  have e : (i * sz + j) % sz = j := by rw [Nat.add_comm, Nat.add_mul_mod_self_right, Nat.mod_eq_of_lt hj]
  have hj2 : j < Z.cells.size := by rw [hz, hsz]; exact hj
  rw [Array.getElem?_toList, Builtin.zeroCells, Array.getElem?_map, Array.getElem?_range, hz, hsz, if_pos hlt]
  simp only [Option.map_some, e]
  rw [getElem!_pos Z.cells j hj2, ← u1, Array.getElem?_eq_getElem hj2]

/-- What append takes, as the machine finds it. -/
inductive NewsR (P : Program) (c : Cx) (d2 : TypeDesc) (e : TypeId) (sz : Nat) (X : Value) (news : List (List AV)) (us : List Value) : Prop
  | src (hd : ∀ k, d2 ≠ .int k) (hl : ∀ w, (Builtin.lenOf X).run P w = .ok news.length w) (hf : ∀ w : World, (∀ a, w.cell? a = c.w.cell? a) → (Builtin.firstCells sz news.length X).run P w = .ok us.toArray w)
  | zeros (k k' : IntKind) (n : Nat) (ti : TypeInfo) (Z : Value) (hd : d2 = .int k) (hX : X = .int k' n) (hw : IntKind.i64.wrap n = n) (ht : ∀ w, (typeInfo e).run P w = .ok ti w) (hb : ¬ (n : Int) * (ti.bytes : Int) > 2 ^ 48) (hz : ∀ w, (zeroValue e).run P w = .ok Z w) (hu : us.toArray = Builtin.zeroCells Z.cells n) (hn : news.length = n)

theorem news_src {P : Program} {c : Cx} {H : Hp} (s : Sim c H) {x : AV} {X : Value} (hX : Rel c x X) {d2 : TypeDesc} {e : TypeId} {sz by_ : Nat} {zc : List AV} {news : List (List AV)} (hby : byOf P e = some by_) (hb0 : by_ ≠ 0) (hzc : zcOf P e = some zc) (hz : zc.length = sz) (h0 : sz ≠ 0)
    (h : newsOf P H d2 by_ zc x = some news) (hlo : lenOk sz news = true) (h1 : ∀ b, x = .str b → sz = 1) :
    ∃ us, FlatRows c us sz news ∧ NewsR P c d2 e sz X news us := by
  unfold newsOf at h
  split at h
  · rename_i hi
    split at h
    · rename_i k n
      split at h
      · rename_i hn
        cases h
        obtain ⟨Z, z1, z2, z3⟩ := run_zcs hzc
        obtain ⟨ti, t1, t2⟩ := run_by hby
        refine ⟨(Builtin.zeroCells Z.cells n.toNat).toList, zero_flat z2 hz h0 (z3 c), ?_⟩
        cases hX
        have hn2 : n ≤ 140737488355328 := by
          have h2 : n * 1 ≤ n * (by_ : Int) := Int.mul_le_mul_of_nonneg_left (by omega) hn.1
          omega
        have wn : IntKind.i64.wrap n = n := wrap_i64 hn.1 hn2
        obtain ⟨m, hm⟩ : ∃ m : Nat, n = m := ⟨n.toNat, by omega⟩
        subst hm
        cases d2 with
        | int k2 =>
          refine .zeros k2 k m ti Z rfl rfl wn t1 ?_ z1 (by simp) (by simp)
          have : (2 ^ 48 : Int) = 281474976710656 := by decide
          rw [t2]
          omega
        | _ => cases hi
      · cases h
    · cases h
  · rename_i hi
    obtain ⟨us, g1, g2, g3⟩ := src_flat (P := P) s hX h hlo h0 h1
    refine ⟨us, g1, .src (fun k e => by subst e; exact hi rfl) g2 fun w hw => ?_⟩
    rw [g3 _ w (Nat.le_refl _) hw, ← g1.1, List.take_length]

/-- append where there is room, run. -/
theorem append_run_in {P : Program} {c : Cx} {t t2 ty e : TypeId} {d2 : TypeDesc} {sz : Nat} (hu : P.underlying t = some (.slice e)) (hu2 : P.underlying t2 = some d2) (hsz : szOf P e = some sz) (h0 : sz ≠ 0) {a : Addr} {n cap : Nat} {X : Value} {news : List (List AV)} {us : List Value} {w' : World}
    (hN : NewsR P c d2 e sz X news us) (hne : news.length ≠ 0) (hcap : n + news.length ≤ cap) (hst : (storeCells (a.add (n * sz)) us 0).run P c.w = .ok () w') :
    (Builtin.append_ #[t, t2] ty #[.slice (some a) n cap, X]).run P c.w = .ok (.slice (some a) (n + news.length) cap) w' := by
  cases hN with
  | src hd hl hf =>
    have hzeros : (match d2 with | .int _ => true | _ => false) = false := by
      cases d2 <;> first | rfl | exact absurd rfl (hd _)
    simp only [Builtin.append_, Sem.run_bind, List.getElem?_toArray, List.getElem?_cons_zero, List.getElem?_cons_succ, run_un hu, run_un hu2, Result.andThen_ok, run_sz hsz, Sem.run_pure, hzeros, Bool.false_eq_true, if_false, hl]
    rw [if_pos hcap]
    simp only [Sem.run_bind, Bool.not_false, if_true, hf c.w (fun _ => rfl), Result.andThen_ok, hst, Sem.run_pure]
  | zeros k k' m ti Z hd hX hw ht hb hz hu' hn =>
    subst hd
    subst hX
    have hm : ¬ (m : Int) < 0 := by omega
    have hms : ¬ m * sz = 0 := Nat.mul_ne_zero (by omega) h0
    simp only [Builtin.append_, Sem.run_bind, List.getElem?_toArray, List.getElem?_cons_zero, List.getElem?_cons_succ, run_un hu, run_un hu2, Result.andThen_ok, run_sz hsz, Sem.run_pure, if_true, asInt, asIntOf, hw]
    rw [if_neg hm]
    simp only [Sem.run_bind, Result.andThen_ok, ht, Sem.run_pure]
    rw [if_neg hb]
    simp only [Sem.run_bind, Result.andThen_ok, Sem.run_pure, Int.toNat_natCast]
    rw [← hn, if_pos hcap]
    rw [hn]
    simp only [Sem.run_bind, Result.andThen_ok, Sem.run_pure, Bool.not_true, Bool.false_eq_true, if_false]
    rw [if_neg hms]
    simp only [Sem.run_bind, Result.andThen_ok, Sem.run_pure, hz, ← hu', hst]

/-- append where there is room for sure: the rows behind the end are written over. -/
def vappIn (P : Program) (H : Hp) (t t2 : TypeId) (s x : AV) : Option (AV × Hp) :=
  match s with
  | .row false l i n => match elemAt P t, P.underlying t2 with
    | some (none, e, sz), some d2 => match zcOf P e, byOf P e, H[l]? with
      | some zc, some by_, some (.arr T' sz' rows0) => match newsOf P H d2 by_ zc x with
        | some news => if (zc.length = sz ∧ sz ≠ 0 ∧ by_ ≠ 0 ∧ lenOk sz news = true ∧ (x.isStr = true → sz = 1)) ∧ T' = e ∧ sz' = sz ∧ news.length ≠ 0 ∧ i + n + news.length ≤ rows0.length then
            some (.row false l i (n + news.length), H.set l (.arr T' sz' (rows0.take (i + n) ++ news ++ rows0.drop (i + n + news.length)))) else none
        | none => none
      | _, _, _ => none
    | _, _ => none
  | _ => none


theorem appIn_sound {P : Program} {c : Cx} {H H' : Hp} (s : Sim c H) {t t2 ty : TypeId} {x y v : AV} {X Y : Value} (hX : Rel c x X) (hY : Rel c y Y) (h : vappIn P H t t2 x y = some (v, H')) :
    Yields P c H (Builtin.append_ #[t, t2] ty #[X, Y]) v H' := by
  unfold vappIn at h
  split at h
  · rename_i l i n
    split at h
    · rename_i e sz d2 he hu2
      obtain ⟨hsz, hu⟩ := elemAt_of he
      have hu := (hu.resolve_right (fun h => by obtain ⟨_, h, _⟩ := h; cases h)).2
      split at h
      · rename_i zc by_ T' sz' rows0 hzc hby hl
        split at h
        · rename_i news hnews
          split at h
          · rename_i hc
            obtain ⟨⟨c1, c2, c3, c4, c5⟩, d1, d2', d3, d4⟩ := hc
            subst d1
            subst d2'
            cases h
            obtain ⟨us, g1, g2⟩ := news_src (P := P) s hY hby c3 hzc c1 c2 hnews c4 (fun b e => c5 (by rw [e]; rfl))
            cases hX with
            | row _ _ _ _ cl o cap hρ ho hn ht hlim =>
              have hclsz : cl.sz = sz' := obj_sz s (.inl ⟨_, hl⟩) hρ
              have hroom := row_room s hl c2 hρ ho hlim
              obtain ⟨w', r1, r2⟩ := put_in (P := P) s hl c2 hρ ho g1 d3 d4
              exact ⟨.slice (some ⟨cl.blk, o, none⟩) (n + news.length) cap, _, append_run_in hu hu2 hsz c2 g2 d3 (by omega) (by rw [add_spot]; exact r1), r2, .row _ _ _ _ cl o cap hρ ho (by omega) (fun h => by cases h) hlim⟩
          · cases h
        · cases h
      · cases h
    · cases h
  · cases h
/-- Old rows and zeros in a block of their own. -/
theorem append_growZ {P : Program} {c : Cx} {H : Hp} (s : Sim c H) {t t2 ty e : TypeId} {d2 : TypeDesc} {sz by_ : Nat} {zc : List AV} (hu : P.underlying t = some (.slice e)) (hu2 : P.underlying t2 = some d2)
    (hsz : szOf P e = some sz) (hby : byOf P e = some by_) (hzc : zcOf P e = some zc) (hz : zc.length = sz) (h0 : sz ≠ 0) {base : Option Addr} {X : Value} {n cap : Nat} {rows news : List (List AV)} {vs us : List Value}
    (hvs : FlatRows c vs sz rows) (hus : FlatRows c us sz news) (hold : ∀ w : World, (∀ a, w.cell? a = c.w.cell? a) → (Builtin.firstCells sz rows.length (.slice base rows.length cap)).run P w = .ok vs.toArray w)
    (hN : NewsR P c d2 e sz X news us) (hi : isInt d2 = true) (hne : news.length ≠ 0)
    (hcap : cap < rows.length + news.length) (hb : (rows.length + news.length) * by_ ≤ 140737488355328) (hb0 : by_ ≠ 0) :
    ∃ V c', (Builtin.append_ #[t, t2] ty #[.slice base rows.length cap, X]).run P c.w = .ok V c'.w ∧ To c H c' (H ++ [.arr e sz (rows ++ news)]) ∧ Rel c' (.row false H.length 0 (rows.length + news.length)) V := by
  obtain ⟨ti, t1, t3⟩ := run_by hby
  obtain ⟨Z, z1, z2, z3⟩ := run_zc hzc c.w.drew
  have hd : ∀ a, c.w.drew.cell? a = c.w.cell? a := fun a => rfl
  obtain ⟨need, hn⟩ : ∃ m, m = rows.length + news.length := ⟨_, rfl⟩
  rw [← hn] at hcap hb ⊢
  obtain ⟨nc, hncd⟩ : ∃ m, m = (Question.appendCap need cap e).cut (c.w.tape c.w.drawn (.appendCap need cap e)) := ⟨_, rfl⟩
  have hnc : need ≤ nc := by simp only [hncd, Question.cut]; omega
  have hfits := growslice_fits (old := cap) (need := need) hcap hb
  have hneed : need ≤ 140737488355328 := by
    have h1 : need * 1 ≤ need * by_ := Nat.mul_le_mul_left need (by omega)
    omega
  have hflat := hvs.append hus
  let rest := Builtin.zeroCells Z.cells (nc - need)
  have cells_eq : (vs.toArray ++ us.toArray ++ rest) = ((vs ++ us) ++ rest.toList).toArray := by
    apply Array.ext'
    simp
  have T0 : To c H { c with w := c.w.drew } H := To.world s rfl rfl rfl rfl
  have T1 := new_rows T0.sim (cells := ((vs ++ us) ++ rest.toList).toArray) e (((hflat.mono T0.ext.mono).at_ (rest := rest.toList)))
  have hsize : ((vs ++ us) ++ rest.toList).toArray.size = nc * sz := by
    simp only [List.size_toArray, List.length_append, Array.length_toList, hvs.1, hus.1, rest, size_zeroCells, z2, hz, ← Nat.add_mul, ← hn]
    congr 1
    omega
  refine ⟨.slice (some ⟨c.w.heap.size, 0, none⟩) need nc, _, ?_, T0.trans s T1, ?_⟩
  · have big : ¬ ((need : Int) > IntKind.i64.max) := by
      have : IntKind.i64.max = 9223372036854775807 := by decide
      omega
    have nsc : ¬ (Builtin.nextslicecap need cap * by_ > 2 ^ 48) := by
      have : (2 : Nat) ^ 48 = 281474976710656 := by decide
      omega
    have hnf : ¬ (need ≤ cap) := by omega
    have frc : (Question.appendCap need cap e).forced = false := rfl
    have dr : ({ c.w with drawn := c.w.drawn + 1 } : World) = c.w.drew := rfl
    cases hN with
    | src hd' hl hf => cases d2 <;> first | exact absurd rfl (hd' _) | cases hi
    | zeros k k' m ti2 Z2 hd2 hX hw ht hbz hz2 hu' hnm =>
      subst hd2
      subst hX
      have hm : ¬ (m : Int) < 0 := by omega
      have hms : ¬ m * sz = 0 := Nat.mul_ne_zero (by omega) h0
      have hZ : Z2 = Z := by have a1 := hz2 c.w.drew; rw [z1] at a1; cases a1; rfl
      subst hZ
      have hti : ti2 = ti := by have a1 := ht c.w; rw [t1] at a1; cases a1; rfl
      subst hti
      simp only [Builtin.append_, Sem.run_bind, List.getElem?_toArray, List.getElem?_cons_zero, List.getElem?_cons_succ, run_un hu, run_un hu2, Result.andThen_ok, run_sz hsz, Sem.run_pure, if_true, asInt, asIntOf, hw]
      rw [if_neg hm]
      simp only [Sem.run_bind, Result.andThen_ok, t1, Sem.run_pure]
      rw [if_neg hbz]
      simp only [Sem.run_bind, Result.andThen_ok, Sem.run_pure, Int.toNat_natCast]
      rw [← hnm, ← hn, if_neg hnf]
      simp only [Sem.run_bind, t1, t3, Result.andThen_ok]
      rw [if_neg (fun h => big h.1)]
      simp only [Sem.run_bind, t1, t3, Result.andThen_ok]
      rw [if_neg nsc]
      rw [hnm]
      simp only [Sem.run_bind, run_choose, frc, Bool.false_eq_true, if_false, Result.andThen_ok, t1, run_askRoom, ← hncd, dr, hold _ hd, Bool.not_true, z1]
      rw [if_neg hms]
      simp only [Sem.run_bind, Result.andThen_ok, z1, Sem.run_pure, ← hu', cells_eq, rest]
      simp [newRow, World.alloc_eq]
  · refine .row _ H.length 0 _ ⟨c.w.heap.size, 0, sz, _⟩ 0 nc (updρ_self _ _ _) (by simp) hnc (fun h => by cases h) ?_
    rw [hsize]
    simp


/-- append where there is room: the cells behind the end are written. -/
theorem append_roomN {P : Program} {c : Cx} {H : Hp} (s : Sim c H) {t t2 ty e : TypeId} {d2 : TypeDesc} {sz : Nat} (hu : P.underlying t = some (.slice e)) (hu2 : P.underlying t2 = some d2)
    (hsz : szOf P e = some sz) (h0 : sz ≠ 0) {X : Value} {l i n : Nat} {rows0 news : List (List AV)} {us : List Value} {cl : CL} {o cap : Nat} (hl : H[l]? = some (.arr e sz rows0)) (hr : c.ρ l = some cl)
    (ho : o = cl.base + i * cl.sz) (hi : i + n ≤ rows0.length) (hlim : o + cap * cl.sz = cl.lim)
    (hus : FlatRows c us sz news) (hN : NewsR P c d2 e sz X news us) (hne : news.length ≠ 0)
    (hcap : n + news.length ≤ cap) :
    ∃ V c', (Builtin.append_ #[t, t2] ty #[.slice (some ⟨cl.blk, o, none⟩) n cap, X]).run P c.w = .ok V c'.w ∧ To c H c' (H.set l .dead ++ [.arr e sz ((rows0.drop i).take n ++ news)]) ∧ Rel c' (.row false H.length 0 (n + news.length)) V := by
  obtain ⟨cl0, cells, e1, e2, e3, e4, e5, e6, e7⟩ := s.obj l _ hl
  rw [hr] at e1
  cases e1
  subst e2
  have hmul : (n + news.length) * cl.sz ≤ cap * cl.sz := Nat.mul_le_mul_right _ hcap
  rw [Nat.add_mul] at hmul
  obtain ⟨w', cells', hrun, f1, f2, f3, f4, f5, f6, f7, f8⟩ := run_put (P := P) (o := o + n * cl.sz) e3 (vs := us) (by rw [hus.1]; omega) (hus.one h0)
  refine ⟨.slice (some ⟨cl.blk, o, none⟩) (n + news.length) cap, _, ?_, To.move s (rows' := (rows0.drop i).take n ++ news) hl hr o f4 f1 (f2.trans e4) f5 f6 f7 f8 (fun c' m q r hq => ?_), ?_⟩
  · exact append_run_in hu hu2 hsz h0 hN hne hcap (by rw [add_spot]; exact hrun)
  · have hn : ((rows0.drop i).take n).length = n := by simp; omega
    by_cases hqn : q < n
    · rw [List.getElem?_append_left (by omega), List.getElem?_take, if_pos hqn, List.getElem?_drop] at hq
      obtain ⟨g1, g2⟩ := e7 _ r hq
      refine ⟨g1, fun j x hx => ?_⟩
      have hj : j < cl.sz := by rw [← g1]; exact (List.getElem?_eq_some_iff.1 hx).1
      obtain ⟨V, v1, v2, v3⟩ := g2 j x hx
      refine ⟨V, ?_, v2, v3.mono m⟩
      have hlt := mul_lt_row hqn hj
      rw [f3, if_neg (by omega), ← v1, ho, Nat.add_mul]
      congr 1
      omega
    · rw [List.getElem?_append_right (by omega), hn] at hq
      obtain ⟨g1, g2⟩ := hus.2 _ r hq
      refine ⟨g1, fun j x hx => ?_⟩
      obtain ⟨V, v1, v2, v3⟩ := g2 j x hx
      refine ⟨V, ?_, v2, v3.mono m⟩
      have e : q * cl.sz = n * cl.sz + (q - n) * cl.sz := by rw [← Nat.add_mul]; congr 1; omega
      have hv := (List.getElem?_eq_some_iff.1 v1).1
      rw [f3, if_pos (by omega), ← v1]
      congr 1
      omega
  · have hmul' : (n + news.length) * cl.sz ≤ cap * cl.sz := Nat.mul_le_mul_right _ hcap
    exact .row _ H.length 0 _ ⟨cl.blk, o, cl.sz, cl.lim⟩ o cap (updρ_self _ _ _) (by simp) hcap (fun h => by cases h) hlim

/-- append of zeros where there is no room for sure. -/
def vappZ (P : Program) (H : Hp) (t t2 : TypeId) (s x : AV) : Option (AV × Hp) :=
  match elemAt P t, P.underlying t2 with
  | some (none, e, sz), some d2 => if isInt d2 = true then match zcOf P e, byOf P e with
    | some zc, some by_ => match newsOf P H d2 by_ zc x with
      | some news => if (zc.length = sz ∧ sz ≠ 0 ∧ by_ ≠ 0 ∧ lenOk sz news = true) ∧ news.length ≠ 0 then match s with
          | .row false l i n => match H[l]? with
            | some (.arr T' sz' rows0) => if (T' = e ∧ sz' = sz) ∧ i + n ≤ rows0.length ∧ (n + news.length) * by_ ≤ 140737488355328 then
                some (.row false H.length 0 (n + news.length), H.set l .dead ++ [.arr e sz ((rows0.drop i).take n ++ news)]) else none
            | _ => none
          | _ => match (match s with | .nils => some [] | .row true l i n => rowsOf H (.row true l i n) | _ => none) with
            | some old => if lenOk sz old = true ∧ (old.length + news.length) * by_ ≤ 140737488355328 then
                some (.row false H.length 0 (old.length + news.length), H ++ [.arr e sz (old ++ news)]) else none
            | none => none
        else none
      | none => none
    | _, _ => none
    else none
  | _, _ => none

theorem appZ_sound {P : Program} {c : Cx} {H H' : Hp} (s : Sim c H) {t t2 ty : TypeId} {x y v : AV} {X Y : Value} (hX : Rel c x X) (hY : Rel c y Y) (h : vappZ P H t t2 x y = some (v, H')) :
    Yields P c H (Builtin.append_ #[t, t2] ty #[X, Y]) v H' := by
  unfold vappZ at h
  split at h
  · rename_i e sz d2 he hu2
    obtain ⟨hsz, hu⟩ := elemAt_of he
    have hu := (hu.resolve_right (fun h => by obtain ⟨_, h, _⟩ := h; cases h)).2
    split at h
    · rename_i hi
      split at h
      · rename_i zc by_ hzc hby
        split at h
        · rename_i news hnews
          split at h
          · rename_i hc
            obtain ⟨⟨c1, c2, c3, c4⟩, d1⟩ := hc
            obtain ⟨us, g1, g2⟩ := news_src (P := P) s hY hby c3 hzc c1 c2 hnews c4 (fun b e => by subst e; simp [newsOf, hi] at hnews)
            split at h
            · rename_i l i n
              split at h
              · rename_i T' sz' rows0 hl
                split at h
                · rename_i hb
                  obtain ⟨⟨b0, b1⟩, b2, b3⟩ := hb
                  subst b0
                  subst b1
                  cases h
                  have hXr := hX
                  cases hX with
                  | row _ _ _ _ cl o cap hρ ho hn ht hlim =>
                    have hclsz : cl.sz = sz' := obj_sz s (.inl ⟨_, hl⟩) hρ
                    by_cases hroom : n + news.length ≤ cap
                    · exact append_roomN s hu hu2 hsz c2 hl hρ ho b2 hlim g1 g2 d1 hroom
                    · have hlen0 : ((rows0.drop i).take n).length = n := by simp; omega
                      have hold : rowsOf H (.row false l i n) = some ((rows0.drop i).take n) := by
                        simp only [rowsOf, hl]
                        rw [if_pos b2]
                      have hlo : lenOk sz' ((rows0.drop i).take n) = true := by
                        obtain ⟨cl0, cells, e1, e2, e3, e4, e5, e6, e7⟩ := s.obj l _ hl
                        refine List.all_eq_true.2 (fun r hr => ?_)
                        obtain ⟨q, hq⟩ := List.mem_iff_getElem?.1 (List.mem_of_mem_drop (List.mem_of_mem_take hr))
                        have := (e7 q r hq).1
                        simpa using this
                      have hs := rows_sound s hXr hold hlo
                      obtain ⟨os, o1, o2, o3⟩ := hs.flat (P := P) c2
                      have g := append_growZ (ty := ty) s hu hu2 hsz hby hzc c1 c2 (n := 0) (base := some ⟨cl.blk, o, none⟩) (X := Y) (cap := cap) o1 g1 (fun w hwc => by have := o3 _ w (Nat.le_refl _) hwc; rw [hlen0] at this ⊢; rw [this, ← hlen0, ← o1.1, List.take_length]) g2 hi d1 (by omega) (by rw [hlen0]; exact b3) c3
                      rw [hlen0] at g
                      obtain ⟨V, c2', k1, k2, k3⟩ := g
                      have hlt : l < H.length := (List.getElem?_eq_some_iff.1 hl).1
                      have kk := k2.kill l
                      rw [List.set_append_left _ _ hlt] at kk
                      exact ⟨V, c2', k1, kk, k3⟩
                · cases h
              · cases h
            · rename_i hnot
              split at h
              · rename_i old hold
                split at h
                · rename_i hc2
                  obtain ⟨d2', d3⟩ := hc2
                  cases h
                  have hs : SliceAt c X sz old ∧ ∀ base cap, X = .slice base old.length cap → cap = old.length := by
                    split at hold
                    · cases hold
                      cases hX
                      exact ⟨.inl ⟨none, 0, rfl, rfl⟩, fun base cap e => by cases e; rfl⟩
                    · rename_i l i n
                      refine ⟨rows_sound s hX hold d2', fun base cap e => ?_⟩
                      cases hX with
                      | row _ _ _ _ cl o cap' hρ ho hn ht hl => cases e; exact ht rfl
                    · cases hold
                  obtain ⟨hs1, hs2⟩ := hs
                  obtain ⟨base, cap, rfl⟩ := SliceAt.lenOf (P := P) hs1
                  obtain ⟨os, o1, o2, o3⟩ := hs1.flat (P := P) c2
                  have hcap := hs2 base cap rfl
                  exact append_growZ s hu hu2 hsz hby hzc c1 c2 (n := 0) o1 g1 (fun w hwc => by rw [o3 _ w (Nat.le_refl _) hwc, ← o1.1, List.take_length]) g2 hi d1 (by omega) d3 c3
                · cases h
              · cases h
          · cases h
        · cases h
      · cases h
    · cases h
  · cases h

/-- A literal text as bytes: the slice stays what it is; no one writes it any more. -/
def vconvSame (P : Program) (H : Hp) (src dst : TypeId) (x : AV) : Option (AV × Hp) :=
  match P.underlying dst, x with
  | some (.slice e), .row t l i n => match P.underlying e, H[l]? with
    | some (.int .u8), some (.arr T sz rows) => if src = dst ∧ allVal rows = true then some (.row t l i n, H.set l (.frz sz rows)) else none
    | _, _ => none
  | _, _ => none

theorem convSame_sound {P : Program} {c : Cx} {H H' : Hp} (s : Sim c H) {src dst : TypeId} {x v : AV} {X : Value} (hX : Rel c x X) (h : vconvSame P H src dst x = some (v, H')) : Yields P c H (convert src dst X) v H' := by
  unfold vconvSame at h
  split at h
  · rename_i e t l i n hu
    split at h
    · rename_i T sz rows he hl
      split at h
      · rename_i hc
        obtain ⟨rfl, hv⟩ := hc
        cases h
        cases hX with
        | row _ _ _ _ cl o cap hρ ho hn ht hlim =>
          obtain ⟨cl0, cells, e1, e2, e3, e4, e5, e6, e7⟩ := s.obj l _ hl
          rw [hρ] at e1
          cases e1
          let w' : World := c.w.freeze ⟨cl.blk, cells.size, none⟩ 1
          have hlt : cl.blk < c.w.heap.size := (Array.getElem?_eq_some_iff.1 e3).1
          have hheap : ∀ b, w'.heap[b]? = if b = cl.blk then some (.cells cells T (cells.size, cells.size + 1)) else c.w.heap[b]? := fun b => by
            simp only [w', World.freeze, Nat.one_ne_zero, if_false, Array.getElem?_modify]
            by_cases hb : b = cl.blk
            · subst hb
              simp [e3]
            · rw [if_neg (Ne.symm hb), if_neg hb]
          have TT := To.freezeW s (w' := w') hl hv hρ e3 (by simp [w', World.freeze]) (by rw [hheap, if_pos rfl]) (fun b hb => by rw [hheap, if_neg hb]) rfl rfl rfl
          refine ⟨.slice (some ⟨cl.blk, o, none⟩) n cap, _, ?_, TT, .row t l i n cl o cap hρ ho hn ht hlim⟩
          have hshape : c.w.shape? cl.blk = some (T, cells.size) := by simp [World.shape?, e3]
          simp only [convert, Sem.run_bind, run_un hu, Result.andThen_ok, run_un he, markStringish, run_shape, beq_self_eq_true]
          show ((Sem.run P (match c.w.shape? cl.blk with | some (_, n) => freeze { block := cl.blk, off := n } 1 | _ => pure ()) c.w).andThen _) = _
          rw [hshape]
          rfl
      · cases h
    · cases h
  · cases h

def vclear (P : Program) (H : Hp) (t : TypeId) (x : AV) : Option Hp :=
  match x with
  | .nils => some H
  | .list _ [] => some H
  | .row _ l i n => match P.underlying t with
    | some (.slice e) => match szOf P e, zcOf P e, H[l]? with
      | some sz, some zc, some (.arr T sz' rows) => if zc.length = sz ∧ sz ≠ 0 ∧ sz' = sz ∧ i + n ≤ rows.length then
          (if n = 0 then some H else some (H.set l (.arr T sz' (rows.take i ++ List.replicate n zc ++ rows.drop (i + n))))) else none
      | _, _, _ => none
    | _ => none
  | _ => none

theorem clear_sound {P : Program} {c : Cx} {H H' : Hp} (s : Sim c H) {t ty : TypeId} {x : AV} {X : Value} (hX : Rel c x X) (h : vclear P H t x = some H') (hu0 : ∃ d, P.underlying t = some d) :
    Yields P c H (Builtin.clear_ #[t] ty #[X]) (.tup []) H' := by
  have htup : ∀ c', Rel c' (.tup []) (.tuple #[]) := fun c' => .tup [] #[] rfl (fun j x V hx => by cases hx)
  obtain ⟨d, hd⟩ := hu0
  unfold vclear at h
  split at h
  · cases h
    cases hX
    refine Yields.same s (V := .tuple #[]) ?_ (htup _)
    simp [Builtin.clear_, run_un hd]
  · cases h
    cases hX with
    | list _ _ b o sz cap sp _ F hb hc ht hs hv h1 h2 =>
      refine Yields.same s (V := .tuple #[]) ?_ (htup _)
      simp [Builtin.clear_, run_un hd]
  · rename_i tt l i n
    split at h
    · rename_i e hu
      split at h
      · rename_i sz zc T sz' rows hsz hzc hl
        split at h
        · rename_i hc
          obtain ⟨c1, c2, c3, c4⟩ := hc
          subst c3
          cases hX with
          | row _ _ _ _ cl o cap hρ ho hn ht hlim =>
            split at h
            · rename_i h0
              cases h
              subst h0
              refine Yields.same s (V := .tuple #[]) ?_ (htup _)
              simp [Builtin.clear_, run_un hu]
            · rename_i h0
              cases h
              obtain ⟨Z, z1, z2, z3⟩ := run_zcs hzc
              have hF := zero_flat (c := c) (n := n) z2 c1 c2 (z3 c)
              obtain ⟨w', r1, r2⟩ := put_in (P := P) (n := 0) s hl c2 hρ ho hF (by simpa using h0) (by simpa using c4)
              simp only [Nat.add_zero, List.length_replicate, Nat.zero_mul] at r1 r2
              refine ⟨.tuple #[], _, ?_, r2, htup _⟩
              obtain ⟨m, rfl⟩ : ∃ m, n = m + 1 := ⟨n - 1, by omega⟩
              simp only [Builtin.clear_, Sem.run_bind, List.getElem?_toArray, List.getElem?_cons_zero, run_un hu, Result.andThen_ok, z1, r1, Sem.run_pure]
        · cases h
      · cases h
    · cases h
  · cases h

def vcap (P : Program) (t : TypeId) (x : AV) : Option AV :=
  match P.underlying t, x with
  | some (.slice _), .nils => some (.int .i64 0)
  | some (.slice _), .row true _ _ n => some (.int .i64 n)
  | _, _ => none

theorem cap_sound {P : Program} {c : Cx} {t ty : TypeId} {x v : AV} {X : Value} (hX : Rel c x X) (h : vcap P t x = some v) : ∃ V, (Builtin.cap_ #[t] ty #[X]).run P c.w = .ok V c.w ∧ Rel c v V := by
  unfold vcap at h
  split at h
  · rename_i e hu
    cases h
    cases hX
    exact ⟨.int .i64 0, by simp [Builtin.cap_, run_un hu, goInt], .int _ _⟩
  · rename_i e l i n hu
    cases h
    cases hX with
    | row _ _ _ _ cl o cap hρ ho hn ht hlim =>
      have := ht rfl
      subst this
      exact ⟨.int .i64 cap, by simp [Builtin.cap_, run_un hu, goInt], .int _ _⟩
  · cases h
end Go.Vi
