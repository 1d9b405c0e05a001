/- Vi, part J: append, copy, bytes and texts. -/
import Derived.Test.YtecjobmgphdjoaaGreatViI
set_option autoImplicit false
set_option linter.unusedVariables false
set_option linter.unusedSimpArgs false
namespace Go.Vi

/-- What append and copy take from: a slice's rows, a text's bytes. -/
def srcRows (H : Hp) : AV → Option (List (List AV))
  | .str s => some (strRows s)
  | x => rowsOf H x

theorem src_flat {P : Program} {c : Cx} {H : Hp} (s : Sim c H) {x : AV} {X : Value} (hX : Rel c x X) {rows : List (List AV)} (h : srcRows H x = some rows) {sz : Nat} (hsz : lenOk sz rows = true) (h0 : sz ≠ 0) (h1 : ∀ b, x = .str b → sz = 1) :
    ∃ vs, FlatRows c vs sz rows ∧ (∀ w, (Builtin.lenOf X).run P w = .ok rows.length w) ∧ ∀ (m : Nat) (w : World), m ≤ rows.length → (∀ a, w.cell? a = c.w.cell? a) → (Builtin.firstCells sz m X).run P w = .ok (vs.take (m * sz)).toArray w := by
  by_cases hs : ∃ b, x = .str b
  · obtain ⟨b, rfl⟩ := hs
    cases h1 b rfl
    cases h
    cases hX
    obtain ⟨vs, f1, f2, f3⟩ := str_flat (P := P) (c := c) b
    exact ⟨vs, f1, f2, fun m w hm _ => f3 m w hm⟩
  · have h' : rowsOf H x = some rows := by
      cases x <;> first | exact h | exact absurd ⟨_, rfl⟩ hs
    exact (rows_sound s hX h' hsz).flat h0

/-- Old rows and new ones in a block of their own. -/
theorem append_grow {P : Program} {c : Cx} {H : Hp} (s : Sim c H) {t t2 ty e : TypeId} {d2 : TypeDesc} {sz by_ : Nat} {zc : List AV} (hu : P.underlying t = some (.slice e)) (hu2 : P.underlying t2 = some d2) (hd2 : ∀ k, d2 ≠ .int k)
    (hsz : szOf P e = some sz) (hby : byOf P e = some by_) (hzc : zcOf P e = some zc) (hz : zc.length = sz) (h0 : sz ≠ 0) {base : Option Addr} {X : Value} {n cap : Nat} {rows news : List (List AV)} {vs us : List Value}
    (hvs : FlatRows c vs sz rows) (hus : FlatRows c us sz news) (hold : ∀ w : World, (∀ a, w.cell? a = c.w.cell? a) → (Builtin.firstCells sz rows.length (.slice base rows.length cap)).run P w = .ok vs.toArray w)
    (hlen : ∀ w, (Builtin.lenOf X).run P w = .ok news.length w) (hnew : ∀ w : World, (∀ a, w.cell? a = c.w.cell? a) → (Builtin.firstCells sz news.length X).run P w = .ok us.toArray w)
    (hcap : cap < rows.length + news.length) (hb : (rows.length + news.length) * by_ ≤ 140737488355328) (hb0 : by_ ≠ 0) :
    ∃ V c', (Builtin.append_ #[t, t2] ty #[.slice base rows.length cap, X]).run P c.w = .ok V c'.w ∧ To c H c' (H ++ [.arr e sz (rows ++ news)]) ∧ Rel c' (.row false H.length 0 (rows.length + news.length)) V := by
  obtain ⟨ti, t1, t3⟩ := run_by hby
  obtain ⟨Z, z1, z2, z3⟩ := run_zc hzc c.w.drew
  have hd : ∀ a, c.w.drew.cell? a = c.w.cell? a := fun a => rfl
  obtain ⟨need, hn⟩ : ∃ m, m = rows.length + news.length := ⟨_, rfl⟩
  rw [← hn] at hcap hb ⊢
  obtain ⟨nc, hncd⟩ : ∃ m, m = (Question.appendCap need cap e).cut (c.w.tape c.w.drawn (.appendCap need cap e)) := ⟨_, rfl⟩
  have hnc : need ≤ nc := by simp only [hncd, Question.cut]; omega
  have hfits := growslice_fits (old := cap) (need := need) hcap hb
  have hneed : need ≤ 140737488355328 := by
    have h1 : need * 1 ≤ need * by_ := Nat.mul_le_mul_left need (by omega)
    omega
  have hflat := hvs.append hus
  let rest := Builtin.zeroCells Z.cells (nc - need)
  have cells_eq : (vs.toArray ++ us.toArray ++ rest) = ((vs ++ us) ++ rest.toList).toArray := by
    apply Array.ext'
    simp
  have T0 : To c H { c with w := c.w.drew } H := To.world s rfl rfl rfl rfl
  have T1 := new_rows T0.sim (cells := ((vs ++ us) ++ rest.toList).toArray) e (((hflat.mono T0.ext.mono).at_ (rest := rest.toList)))
  have hsize : ((vs ++ us) ++ rest.toList).toArray.size = nc * sz := by
    simp only [List.size_toArray, List.length_append, Array.length_toList, hvs.1, hus.1, rest, size_zeroCells, z2, hz, ← Nat.add_mul, ← hn]
    congr 1
    omega
  refine ⟨.slice (some ⟨c.w.heap.size, 0, none⟩) need nc, _, ?_, T0.trans s T1, ?_⟩
  · have hnz : ∀ (k : IntKind), d2 ≠ .int k := hd2
    have hzeros : (match d2 with | .int _ => true | _ => false) = false := by
      cases d2 <;> first | rfl | exact absurd rfl (hd2 _)
    have big : ¬ ((need : Int) > IntKind.i64.max) := by
      have : IntKind.i64.max = 9223372036854775807 := by decide
      omega
    have nsc : ¬ (Builtin.nextslicecap need cap * by_ > 2 ^ 48) := by
      have : (2 : Nat) ^ 48 = 281474976710656 := by decide
      omega
    have hnf : ¬ (need ≤ cap) := by omega
    have frc : (Question.appendCap need cap e).forced = false := rfl
    have dr : ({ c.w with drawn := c.w.drawn + 1 } : World) = c.w.drew := rfl
    simp only [Builtin.append_, Sem.run_bind, List.getElem?_toArray, List.getElem?_cons_zero, List.getElem?_cons_succ, run_un hu, run_un hu2, Result.andThen_ok, run_sz hsz, Sem.run_pure, hzeros, Bool.false_eq_true, if_false, hlen]
    rw [← hn, if_neg hnf]
    simp only [Sem.run_bind, t1, t3, Result.andThen_ok]
    rw [if_neg (fun h => big h.1)]
    simp only [Sem.run_bind, t1, t3, Result.andThen_ok]
    rw [if_neg nsc]
    simp only [Sem.run_bind, run_choose, frc, Bool.false_eq_true, if_false, Result.andThen_ok, t1, run_askRoom, ← hncd, dr, hold _ hd, Bool.not_false, if_true, hnew _ hd, z1, cells_eq, rest]
    simp [newRow, World.alloc_eq]
  · refine .row _ H.length 0 _ ⟨c.w.heap.size, 0, sz, _⟩ 0 nc (updρ_self _ _ _) (by simp) hnc (fun h => by cases h) ?_
    rw [hsize]
    simp

/-- A row that goes on in its block under a new name; the old name is dead. -/
theorem To.move {c : Cx} {H : Hp} (s : Sim c H) {l sz : Nat} {rows0 rows' : List (List AV)} {cl : CL} {T0 : TypeId} (hl : H[l]? = some (.arr T0 sz rows0)) (hr : c.ρ l = some cl) (o : Nat) {w' : World} {cells' : Array Value} {T : TypeId}
    (hsz : w'.heap.size = c.w.heap.size) (hb : w'.heap[cl.blk]? = some (.cells cells' T (0, 0))) (hlim : cells'.size = cl.lim) (hh : ∀ b, b ≠ cl.blk → w'.heap[b]? = c.w.heap[b]?) (h1 : w'.os = c.w.os) (h2 : w'.tape = c.w.tape) (h3 : w'.output = c.w.output)
    (ho : ∀ c' : Cx, Mono c c' → RowsAt c' cells' o sz rows') :
    To c H { c with w := w', ρ := updρ c.ρ H.length ⟨cl.blk, o, sz, cl.lim⟩ } (H.set l .dead ++ [.arr T sz rows']) := by
  obtain ⟨cl0, cells, e1, e2, e3, e4, e5, e6, e7⟩ := s.obj l _ hl
  rw [hr] at e1
  cases e1
  have hlen : l < H.length := (List.getElem?_eq_some_iff.1 hl).1
  have hlv : live H l := ⟨_, hl, rfl⟩
  have hlt : cl.blk < c.w.heap.size := (Array.getElem?_eq_some_iff.1 e3).1
  have hold : ∀ k, k < H.length → k ≠ l → (H.set l .dead ++ [.arr T sz rows'])[k]? = H[k]? := fun k hk hne => by
    rw [List.getElem?_append_left (by simpa using hk), List.getElem?_set_ne (Ne.symm hne)]
  have hdead : (H.set l .dead ++ [.arr T sz rows'])[l]? = some .dead := by
    rw [List.getElem?_append_left (by simpa using hlen), List.getElem?_set_self hlen]
  have hnew : (H.set l .dead ++ [.arr T sz rows'])[H.length]? = some (.arr T sz rows') := by
    rw [List.getElem?_append_right (by simp)]
    simp
  have m : Mono c { c with w := w', ρ := updρ c.ρ H.length ⟨cl.blk, o, sz, cl.lim⟩ } := by
    refine ⟨fun _ h => h, fun _ h => h, fun k cl' h => ?_, fun b h => hh b (fun e => by subst e; exact h.elim e5 e6)⟩
    have : k ≠ H.length := fun e => by rw [e, s.fresh _ (Nat.le_refl _)] at h; cases h
    simp [updρ, this, h]
  have lv : ∀ k, live (H.set l .dead ++ [.arr T sz rows']) k → (k = H.length ∧ True) ∨ (k < H.length ∧ k ≠ l ∧ live H k) := fun k ⟨o2, h, hv2⟩ => by
    by_cases hk : k < H.length
    · by_cases e : k = l
      · subst e
        rw [hdead] at h
        cases h
        cases hv2
      · rw [hold k hk e] at h
        exact .inr ⟨hk, e, o2, h, hv2⟩
    · have := (List.getElem?_eq_some_iff.1 h).1
      simp at this
      exact .inl ⟨by omega, trivial⟩
  have oldρ : ∀ k, k < H.length → updρ c.ρ H.length ⟨cl.blk, o, sz, cl.lim⟩ k = c.ρ k := fun k hk => by simp [updρ]; omega
  refine ⟨⟨m, by simp [hsz], fun b hb hn => hh b (fun e => hn ⟨l, cl, hlv, hr, e.symm⟩), fun _ h => .inl h, fun _ => Iff.rfl, fun k cl' h => ?_, h1, h2, h3⟩,
    ⟨fun b hb => by simp only [hsz]; exact s.bound b hb, fun b hb => by simp only [hsz]; exact s.boundB b hb, fun k o2 h => ?_, fun a b c1 c2 ha hb2 hca hcb hab => ?_, fun k hk => ?_⟩, by simp, fun k hk h => ?_⟩
  · by_cases e : k = H.length
    · subst e
      simp [updρ] at h
      subst h
      exact .inr (.inr ⟨l, cl, hlv, hr, rfl⟩)
    · simp [updρ, e] at h
      exact .inl h
  · by_cases hk : k < H.length
    · by_cases e : k = l
      · subst e
        rw [hdead] at h
        cases h
        trivial
      · rw [hold k hk e] at h
        refine (s.obj k o2 h).keep m (fun _ _ _ h => h) (fun _ h => h) (fun cl2 hr2 hv2 => hh _ (fun e2 => e (s.inj k l cl2 cl (live_of h hv2) hlv hr2 hr e2)))
    · have := (List.getElem?_eq_some_iff.1 h).1
      simp at this
      have e : k = H.length := by omega
      subst e
      rw [hnew] at h
      cases h
      exact ⟨⟨cl.blk, o, sz, cl.lim⟩, cells', updρ_self _ _ _, rfl, hb, hlim, e5, e6, ho _ m⟩
  · have key : ∀ k cl', live (H.set l .dead ++ [.arr T sz rows']) k → updρ c.ρ H.length ⟨cl.blk, o, sz, cl.lim⟩ k = some cl' → cl'.blk = cl.blk → k = H.length := fun k cl' hk hρ' hblk => by
      rcases lv k hk with ⟨h, _⟩ | ⟨h4, h5, h6⟩
      · exact h
      · rw [oldρ k h4] at hρ'
        exact absurd (s.inj k l cl' cl h6 hlv hρ' hr hblk) h5
    rcases lv a ha with ⟨rfl, _⟩ | ⟨h4, h5, h6⟩
    · simp [updρ] at hca
      subst hca
      exact (key b c2 hb2 hcb hab.symm).symm
    · rcases lv b hb2 with ⟨rfl, _⟩ | ⟨k4, k5, k6⟩
      · simp [updρ] at hcb
        subst hcb
        exact key a c1 ha hca hab
      · replace hca := (oldρ a h4).symm.trans hca
        replace hcb := (oldρ b k4).symm.trans hcb
        exact s.inj a b c1 c2 h6 k6 hca hcb hab
  · simp at hk
    have e : k ≠ H.length := by omega
    simp [updρ, e]
    exact s.fresh k (by omega)
  · rcases lv k h with ⟨h, _⟩ | ⟨_, _, h6⟩
    · omega
    · exact h6

theorem To.kill {c c' : Cx} {H H' : Hp} (t : To c H c' H') (l : Nat) : To c H c' (H'.set l .dead) := by
  have lv : ∀ k, live (H'.set l .dead) k → live H' k := fun k ⟨o2, h, hv⟩ => by
    by_cases e : l = k
    · subst e
      have hl : l < H'.length := by have := (List.getElem?_eq_some_iff.1 h).1; simpa using this
      rw [List.getElem?_set_self hl] at h
      cases h
      cases hv
    · rw [List.getElem?_set_ne e] at h
      exact ⟨o2, h, hv⟩
  refine ⟨t.ext, ⟨t.sim.bound, t.sim.boundB, fun k o h => ?_, fun a b c1 c2 ha hb => t.sim.inj a b c1 c2 (lv a ha) (lv b hb), fun k hk => t.sim.fresh k (by simpa using hk)⟩, by simpa using t.len, fun k hk h => t.liv k hk (lv k h)⟩
  by_cases e : l = k
  · subst e
    have hl : l < H'.length := by have := (List.getElem?_eq_some_iff.1 h).1; simpa using this
    rw [List.getElem?_set_self hl] at h
    cases h
    trivial
  · rw [List.getElem?_set_ne e] at h
    exact t.sim.obj k o h

/-- append where there is room: the cells behind the end are written. -/
theorem append_room {P : Program} {c : Cx} {H : Hp} (s : Sim c H) {t t2 ty e : TypeId} {d2 : TypeDesc} {sz : Nat} (hu : P.underlying t = some (.slice e)) (hu2 : P.underlying t2 = some d2) (hd2 : ∀ k, d2 ≠ .int k)
    (hsz : szOf P e = some sz) (h0 : sz ≠ 0) {X : Value} {l i n : Nat} {rows0 news : List (List AV)} {us : List Value} {cl : CL} {o cap : Nat} (hl : H[l]? = some (.arr e sz rows0)) (hr : c.ρ l = some cl)
    (ho : o = cl.base + i * cl.sz) (hi : i + n ≤ rows0.length) (hlim : o + cap * cl.sz = cl.lim)
    (hus : FlatRows c us sz news) (hlen : ∀ w, (Builtin.lenOf X).run P w = .ok news.length w) (hnew : ∀ w : World, (∀ a, w.cell? a = c.w.cell? a) → (Builtin.firstCells sz news.length X).run P w = .ok us.toArray w)
    (hcap : n + news.length ≤ cap) :
    ∃ V c', (Builtin.append_ #[t, t2] ty #[.slice (some ⟨cl.blk, o, none⟩) n cap, X]).run P c.w = .ok V c'.w ∧ To c H c' (H.set l .dead ++ [.arr e sz ((rows0.drop i).take n ++ news)]) ∧ Rel c' (.row false H.length 0 (n + news.length)) V := by
  obtain ⟨cl0, cells, e1, e2, e3, e4, e5, e6, e7⟩ := s.obj l _ hl
  rw [hr] at e1
  cases e1
  subst e2
  have hmul : (n + news.length) * cl.sz ≤ cap * cl.sz := Nat.mul_le_mul_right _ hcap
  rw [Nat.add_mul] at hmul
  obtain ⟨w', cells', hrun, f1, f2, f3, f4, f5, f6, f7, f8⟩ := run_put (P := P) (o := o + n * cl.sz) e3 (vs := us) (by rw [hus.1]; omega) (hus.one h0)
  refine ⟨.slice (some ⟨cl.blk, o, none⟩) (n + news.length) cap, _, ?_, To.move s (rows' := (rows0.drop i).take n ++ news) hl hr o f4 f1 (f2.trans e4) f5 f6 f7 f8 (fun c' m q r hq => ?_), ?_⟩
  · have hzeros : (match d2 with | .int _ => true | _ => false) = false := by
      cases d2 <;> first | rfl | exact absurd rfl (hd2 _)
    simp only [Builtin.append_, Sem.run_bind, List.getElem?_toArray, List.getElem?_cons_zero, List.getElem?_cons_succ, run_un hu, run_un hu2, Result.andThen_ok, run_sz hsz, Sem.run_pure, hzeros, Bool.false_eq_true, if_false, hlen]
    rw [if_pos hcap]
    simp only [Sem.run_bind, Bool.not_false, if_true, hnew c.w (fun _ => rfl), Result.andThen_ok, add_spot, hrun, Sem.run_pure]
  · have hn : ((rows0.drop i).take n).length = n := by simp; omega
    by_cases hqn : q < n
    · rw [List.getElem?_append_left (by omega), List.getElem?_take, if_pos hqn, List.getElem?_drop] at hq
      obtain ⟨g1, g2⟩ := e7 _ r hq
      refine ⟨g1, fun j x hx => ?_⟩
      have hj : j < cl.sz := by rw [← g1]; exact (List.getElem?_eq_some_iff.1 hx).1
      obtain ⟨V, v1, v2, v3⟩ := g2 j x hx
      refine ⟨V, ?_, v2, v3.mono m⟩
      have hlt := mul_lt_row hqn hj
      rw [f3, if_neg (by omega), ← v1, ho, Nat.add_mul]
      congr 1
      omega
    · rw [List.getElem?_append_right (by omega), hn] at hq
      obtain ⟨g1, g2⟩ := hus.2 _ r hq
      refine ⟨g1, fun j x hx => ?_⟩
      obtain ⟨V, v1, v2, v3⟩ := g2 j x hx
      refine ⟨V, ?_, v2, v3.mono m⟩
      have e : q * cl.sz = n * cl.sz + (q - n) * cl.sz := by rw [← Nat.add_mul]; congr 1; omega
      have hv := (List.getElem?_eq_some_iff.1 v1).1
      rw [f3, if_pos (by omega), ← v1]
      congr 1
      omega
  · have hmul' : (n + news.length) * cl.sz ≤ cap * cl.sz := Nat.mul_le_mul_right _ hcap
    exact .row _ H.length 0 _ ⟨cl.blk, o, cl.sz, cl.lim⟩ o cap (updρ_self _ _ _) (by simp) hcap (fun h => by cases h) hlim

def isInt : TypeDesc → Bool
  | .int _ => true
  | _ => false
def AV.isSlice : AV → Bool
  | .nils | .list .. | .row .. | .sub .. => true
  | _ => false
def AV.isStr : AV → Bool
  | .str _ => true
  | _ => false

def vappendF (P : Program) (fz : List (List AV) → Option (Hp × List (List AV))) (H : Hp) (t t2 : TypeId) (s x : AV) : Option (AV × Hp) :=
  match elemAt P t, P.underlying t2 with
  | some (none, e, sz), some d2 => if isInt d2 = true then none else match zcOf P e, byOf P e, srcRows H x with
    | some zc, some by_, some rows => if zc.length = sz ∧ sz ≠ 0 ∧ by_ ≠ 0 ∧ lenOk sz rows = true ∧ (x.isStr = true → sz = 1) ∧ s.isSlice = true then
        if rows.length = 0 then some (s, H) else match fz rows with
        | some (H1, news) => match s with
          | .nils => if news.length * by_ ≤ 140737488355328 then some (.row false H1.length 0 news.length, H1 ++ [.arr e sz news]) else none
          | .list .tight old => if lenOk sz old = true ∧ (old.length + news.length) * by_ ≤ 140737488355328 then some (.row false H1.length 0 (old.length + news.length), H1 ++ [.arr e sz (old ++ news)]) else none
          | .row true l i n => match rowsOf H1 (.row true l i n) with
            | some old => if lenOk sz old = true ∧ (old.length + news.length) * by_ ≤ 140737488355328 then some (.row false H1.length 0 (old.length + news.length), H1 ++ [.arr e sz (old ++ news)]) else none
            | none => none
          | .row false l i n => match H1[l]? with
            | some (.arr T' sz' rows0) => if (T' = e ∧ sz' = sz) ∧ i + n ≤ rows0.length ∧ (n + news.length) * by_ ≤ 140737488355328 then
                some (.row false H1.length 0 (n + news.length), H1.set l .dead ++ [.arr e sz ((rows0.drop i).take n ++ news)]) else none
            | _ => none
          | _ => none
        | none => none
      else none
    | _, _, _ => none
  | _, _ => none

/-- What is appended is frozen. -/
def vappend (P : Program) (H : Hp) (t t2 : TypeId) (s x : AV) : Option (AV × Hp) := vappendF P (frzRows H) H t t2 s x
/-- What is appended stays as it is. -/
def vappendR (P : Program) (H : Hp) (t t2 : TypeId) (s x : AV) : Option (AV × Hp) := vappendF P (fun rows => some (H, rows)) H t t2 s x

theorem set_dead_len {H : Hp} {l : Nat} {o : VO} : (H.set l o).length = H.length := by simp

theorem SliceAt.lenOf {P : Program} {c : Cx} {V : Value} {sz : Nat} {rows : List (List AV)} (h : SliceAt c V sz rows) : ∃ base cap, V = .slice base rows.length cap := by
  rcases h with ⟨base, cap, rfl, rfl⟩ | ⟨b, o, cap, rfl, _⟩
  · exact ⟨_, _, rfl⟩
  · exact ⟨_, _, rfl⟩

theorem appendF_sound {P : Program} {c : Cx} {H H' : Hp} (s : Sim c H) {fz : List (List AV) → Option (Hp × List (List AV))} (hfz : ∀ {vs : List Value} {sz : Nat} {rows news : List (List AV)} {H1 : Hp}, FlatRows c vs sz rows → fz rows = some (H1, news) → (∃ c', Still c H c' H1 ∧ FlatRows c' vs sz news) ∧ news.length = rows.length)
    {t t2 ty : TypeId} {x y v : AV} {X Y : Value} (hX : Rel c x X) (hY : Rel c y Y) (h : vappendF P fz H t t2 x y = some (v, H')) :
    Yields P c H (Builtin.append_ #[t, t2] ty #[X, Y]) v H' := by
  unfold vappendF at h
  split at h
  · rename_i e sz d2 he hu2
    obtain ⟨hsz, hu⟩ := elemAt_of he
    have hu := (hu.resolve_right (fun h => by obtain ⟨_, h, _⟩ := h; cases h)).2
    split at h
    · cases h
    · rename_i hd2
      have hd2' : ∀ k, d2 ≠ .int k := fun k e => by subst e; exact hd2 rfl
      split at h
      · rename_i zc by_ rows hzc hby hsrc
        split at h
        · rename_i hc
          obtain ⟨c1, c2, c3, c4, c5, c6⟩ := hc
          obtain ⟨vs, g1, g2, g3⟩ := src_flat (P := P) s hY hsrc c4 c2 (fun b e => c5 (by rw [e]; rfl))
          split at h
          · rename_i hnil
            cases h
            have hzeros : (match d2 with | .int _ => true | _ => false) = false := by
              cases d2 <;> first | rfl | exact absurd rfl (hd2' _)
            have g3' := g3 0 c.w (by omega) (fun _ => rfl)
            simp only [Nat.zero_mul, List.take_zero] at g3'
            have fin : ∀ base n cap, X = .slice base n cap → n ≤ cap → Yields P c H (Builtin.append_ #[t, t2] ty #[X, Y]) x H := by
              intro base n cap e hle
              subst e
              refine Yields.same s (V := .slice base n cap) ?_ hX
              simp only [Builtin.append_, Sem.run_bind, List.getElem?_toArray, List.getElem?_cons_zero, List.getElem?_cons_succ, run_un hu, run_un hu2, Result.andThen_ok, run_sz hsz, Sem.run_pure, hzeros, Bool.false_eq_true, if_false, g2, hnil, Nat.add_zero]
              rw [if_pos hle]
              simp only [Sem.run_bind, Bool.not_false, if_true, g3', Result.andThen_ok]
              cases base <;> simp [storeCells]
            cases hX with
            | nils => exact fin _ _ _ rfl (Nat.le_refl _)
            | list _ _ _ _ _ cap _ _ _ _ hcap _ _ _ _ _ => exact fin _ _ _ rfl hcap
            | row _ _ _ _ _ _ cap _ _ hn _ _ => exact fin _ _ _ rfl hn
            | sub _ _ _ _ _ _ _ cap _ _ hn => exact fin _ _ _ rfl hn
            | _ => cases c6
          · rename_i hne
            split at h
            · rename_i H1 news hf
              obtain ⟨⟨c', st, hus⟩, hnl⟩ := hfz g1 hf
              have hw := st.w
              have hX' := hX.mono st.to_.ext.mono
              have s' := st.to_.sim
              have glen : ∀ w, (Builtin.lenOf Y).run P w = .ok news.length w := fun w => by rw [hnl]; exact g2 w
              have gnew : ∀ w : World, (∀ a, w.cell? a = c'.w.cell? a) → (Builtin.firstCells sz news.length Y).run P w = .ok vs.toArray w := fun w hwc => by
                rw [hnl, g3 rows.length w (Nat.le_refl _) (fun a => by rw [hwc, hw]), ← g1.1, List.take_length]
              have out : ∀ {v' : AV} {Hx : Hp}, Yields P c' H1 (Builtin.append_ #[t, t2] ty #[X, Y]) v' Hx → Yields P c H (Builtin.append_ #[t, t2] ty #[X, Y]) v' Hx := by
                rintro v' Hx ⟨V, c2, k1, k2, k3⟩
                exact ⟨V, c2, by rw [← hw]; exact k1, st.to_.trans s k2, k3⟩
              have grow : ∀ {old : List (List AV)}, SliceAt c' X sz old → (∀ base cap, X = .slice base old.length cap → cap = old.length) → (old.length + news.length) * by_ ≤ 140737488355328 →
                  Yields P c' H1 (Builtin.append_ #[t, t2] ty #[X, Y]) (.row false H1.length 0 (old.length + news.length)) (H1 ++ [.arr e sz (old ++ news)]) := by
                intro old hs hcap hbytes
                obtain ⟨base, cap, rfl⟩ := SliceAt.lenOf (P := P) hs
                obtain ⟨os, o1, o2, o3⟩ := hs.flat (P := P) c2
                have hc := hcap base cap rfl
                exact append_grow s' hu hu2 hd2' hsz hby hzc c1 c2 (n := 0) o1 hus (fun w hwc => by rw [o3 _ w (Nat.le_refl _) hwc, ← o1.1, List.take_length]) glen gnew (by omega) hbytes c3
              split at h
              · split at h
                · rename_i hb
                  cases h
                  cases hX'
                  have := grow (old := []) (.inl ⟨none, 0, rfl, rfl⟩) (fun base cap e => by cases e; rfl) (by simpa using hb)
                  simp only [List.length_nil, Nat.zero_add, List.nil_append] at this
                  exact out this
                · cases h
              · rename_i old
                split at h
                · rename_i hb
                  cases h
                  refine out (grow (rows_sound s' hX' rfl hb.1) (fun base cap e => ?_) hb.2)
                  cases hX' with
                  | list _ _ _ _ _ cap' _ _ _ _ hcap ht _ _ _ _ => cases e; exact ht rfl
                · cases h
              · rename_i l i n
                split at h
                · rename_i old hold
                  split at h
                  · rename_i hb
                    cases h
                    have hs := rows_sound s' hX' hold hb.1
                    refine out (grow hs (fun base cap e => ?_) hb.2)
                    cases hX' with
                    | row _ _ _ _ cl o cap' hρ ho hn ht hl => cases e; exact ht rfl
                  · cases h
                · cases h
              · rename_i l i n
                split at h
                · rename_i T' sz' rows0 hl
                  split at h
                  · rename_i hb
                    obtain ⟨⟨b0, b1⟩, b2, b3⟩ := hb
                    subst b0
                    subst b1
                    cases h
                    have hXr := hX'
                    cases hX' with
                    | row _ _ _ _ cl o cap hρ ho hn ht hlim =>
                      have hclsz : cl.sz = sz' := obj_sz s' (.inl ⟨_, hl⟩) hρ
                      by_cases hroom : n + news.length ≤ cap
                      · have hcap0 : cap ≠ 0 := by omega
                        exact out (append_room s' hu hu2 hd2' hsz c2 hl hρ ho b2 hlim hus glen gnew hroom)
                      · -- a new block: the old name dies all the same
                        have hlen0 : ((rows0.drop i).take n).length = n := by simp; omega
                        have hold : rowsOf H1 (.row false l i n) = some ((rows0.drop i).take n) := by
                          simp only [rowsOf, hl]
                          rw [if_pos b2]
                        have hlo : lenOk sz' ((rows0.drop i).take n) = true := by
                          obtain ⟨cl0, cells, e1, e2, e3, e4, e5, e6, e7⟩ := s'.obj l _ hl
                          refine List.all_eq_true.2 (fun r hr => ?_)
                          obtain ⟨q, hq⟩ := List.mem_iff_getElem?.1 (List.mem_of_mem_drop (List.mem_of_mem_take hr))
                          have := (e7 q r hq).1
                          simpa using this
                        have hs := rows_sound s' hXr hold hlo
                        obtain ⟨os, o1, o2, o3⟩ := hs.flat (P := P) c2
                        have g := append_grow (ty := ty) s' hu hu2 hd2' hsz hby hzc c1 c2 (n := 0) (base := some ⟨cl.blk, o, none⟩) (X := Y) (cap := cap) o1 hus (fun w hwc => by have := o3 _ w (Nat.le_refl _) hwc; rw [hlen0] at this ⊢; rw [this, ← hlen0, ← o1.1, List.take_length]) glen gnew (by omega) (by rw [hlen0]; exact b3) c3
                        rw [hlen0] at g
                        obtain ⟨V, c2', k1, k2, k3⟩ := g
                        -- drop the old name
                        have hlt : l < H1.length := (List.getElem?_eq_some_iff.1 hl).1
                        have kk := k2.kill l
                        rw [List.set_append_left _ _ hlt] at kk
                        exact out ⟨V, c2', k1, kk, k3⟩
                  · cases h
                · cases h
              · cases h
            · cases h
        · cases h
      · cases h
  · cases h

theorem append_sound {P : Program} {c : Cx} {H H' : Hp} (s : Sim c H) {t t2 ty : TypeId} {x y v : AV} {X Y : Value} (hX : Rel c x X) (hY : Rel c y Y) (h : vappend P H t t2 x y = some (v, H')) :
    Yields P c H (Builtin.append_ #[t, t2] ty #[X, Y]) v H' :=
  appendF_sound s (fun g1 hf => ⟨frzFlat s g1 hf, by have := congrArg List.length (frzRows_len hf); simpa using this⟩) hX hY h

theorem appendR_sound {P : Program} {c : Cx} {H H' : Hp} (s : Sim c H) {t t2 ty : TypeId} {x y v : AV} {X Y : Value} (hX : Rel c x X) (hY : Rel c y Y) (h : vappendR P H t t2 x y = some (v, H')) :
    Yields P c H (Builtin.append_ #[t, t2] ty #[X, Y]) v H' :=
  appendF_sound s (fun g1 hf => by cases hf; exact ⟨⟨c, Still.refl s, g1⟩, rfl⟩) hX hY h
end Go.Vi
