/- What is laid in the pages of a copy: lists alone, and images in their own memory. -/
import Derived.Test.YtenfndlbldffgaaDoorCwE
set_option autoImplicit false
set_option linter.unusedVariables false
set_option linter.unusedSimpArgs false
namespace Go.Vi
open Go Go.Vi Go.Proofs

abbrev Sheet := List (List AV) × Int
def lay (b : List (List AV)) (a : Nat) (src : List (List AV)) : List (List AV) := b.take a ++ src ++ b.drop (a + src.length)
theorem lay_length {b src : List (List AV)} {a : Nat} (h : a + src.length ≤ b.length) : (lay b a src).length = b.length := by
  simp [lay]; omega
/-- Bytes. -/
def Bs (b : List (List AV)) : Prop := ∀ q ∈ b, ∃ v, q = [.int .u8 v]
theorem lay_bs {b src : List (List AV)} {a : Nat} (h1 : Bs b) (h2 : Bs src) : Bs (lay b a src) := by
  intro q hq
  simp only [lay, List.mem_append] at hq
  rcases hq with (hq | hq) | hq
  · exact h1 q (List.mem_of_mem_take hq)
  · exact h2 q hq
  · exact h1 q (List.mem_of_mem_drop hq)
def updS (sh : List Sheet) (i : Nat) (f : Sheet → Sheet) : List Sheet := match sh[i]? with
  | some s => sh.set i (f s)
  | none => sh
theorem updS_at {sh : List Sheet} {i : Nat} {f : Sheet → Sheet} {s : Sheet} (h : sh[i]? = some s) : updS sh i f = sh.set i (f s) := by simp [updS, h]
theorem updS_length {sh : List Sheet} {i : Nat} {f : Sheet → Sheet} : (updS sh i f).length = sh.length := by
  unfold updS; split <;> simp
def layP (sh : List Sheet) (r : List AV) : List Sheet := updS sh (pPg r).toNat fun s => (lay s.1 (pAt r).toNat (pBy r), s.2)
def stampP (sh : List Sheet) (p : List AV × List AV) : List Sheet := updS sh (pPg p.1).toNat fun s => (s.1, pPg p.2)
/-- Pages of 128 bytes. -/
def ShOk (sh : List Sheet) : Prop := ∀ s ∈ sh, s.1.length = 128 ∧ Bs s.1
theorem ShOk.upd {sh : List Sheet} {i : Nat} {f : Sheet → Sheet} (h : ShOk sh) (hf : ∀ s, s.1.length = 128 → Bs s.1 → (f s).1.length = 128 ∧ Bs (f s).1) : ShOk (updS sh i f) := by
  unfold updS
  split
  · rename_i s hs
    intro s' hs'
    rcases List.mem_or_eq_of_mem_set hs' with h1 | rfl
    · exact h s' h1
    · obtain ⟨a, b⟩ := h s (List.mem_of_getElem? hs)
      exact hf s a b
  · exact h
theorem okP_in {r : List AV} (h : okP r = true) : 0 ≤ pPg r ∧ pPg r < 120 ∧ 0 ≤ pAt r ∧ pAt r < 128 ∧ 1 ≤ (pBy r).length ∧ ((pBy r).length : Int) ≤ 128 - pAt r := by
  simp only [okP, Bool.not_eq_true', Bool.or_eq_false_iff, decide_eq_false_iff_not] at h
  omega
theorem ShOk.lay {sh : List Sheet} {r : List AV} (h : ShOk sh) (hk : okP r = true) (hv : Bs (pBy r)) : ShOk (layP sh r) := by
  have := okP_in hk
  refine h.upd fun s h1 h2 => ⟨?_, lay_bs h2 hv⟩
  show (Vi.lay s.1 _ _).length = 128
  rw [lay_length (by omega)]; exact h1
theorem ShOk.stamp {sh : List Sheet} {p : List AV × List AV} (h : ShOk sh) : ShOk (stampP sh p) := h.upd fun s h1 h2 => ⟨h1, h2⟩
theorem scan_ok : ∀ (l : List (List AV)) (p : Option (List AV)) (pgs : List (List AV)), scan p l = some pgs → (∀ r ∈ l, okP r = true) ∧ ∀ q ∈ pgs, ∃ r ∈ l, q = [.int .i64 (pPg r)]
  | [], p, pgs, h => by
    have e : pgs = [] := by cases p <;> (simp [scan] at h; exact h)
    subst e
    exact ⟨fun r hr => absurd hr (by simp), fun q hq => absurd hq (by simp)⟩
  | r :: l, p, pgs, h => by
    have key : okP r = true → ∀ z, scan (some r) l = some z → (z = pgs ∨ [.int .i64 (pPg r)] :: z = pgs) → (∀ r' ∈ r :: l, okP r' = true) ∧ ∀ q ∈ pgs, ∃ r' ∈ r :: l, q = [.int .i64 (pPg r')] := by
      intro hk z hz he
      obtain ⟨i1, i2⟩ := scan_ok l (some r) z hz
      refine ⟨fun r' hr' => ?_, fun q hq => ?_⟩
      · rcases List.mem_cons.1 hr' with rfl | hr'
        · exact hk
        · exact i1 r' hr'
      · rcases he with rfl | rfl
        · obtain ⟨r', h1, h2⟩ := i2 q hq
          exact ⟨r', by simp [h1], h2⟩
        · rcases List.mem_cons.1 hq with rfl | hq
          · exact ⟨r, by simp, rfl⟩
          · obtain ⟨r', h1, h2⟩ := i2 q hq
            exact ⟨r', by simp [h1], h2⟩
    cases p with
    | none =>
      simp only [scan] at h
      split at h
      · rename_i hk
        cases hz : scan (some r) l with
        | none => rw [hz] at h; cases h
        | some z => rw [hz] at h; cases h; exact key hk z hz (.inr rfl)
      · cases h
    | some q =>
      simp only [scan] at h
      split at h
      · rename_i hk
        split at h
        · cases hz : scan (some r) l with
          | none => rw [hz] at h; cases h
          | some z => rw [hz] at h; cases h; exact key hk z hz (.inr rfl)
        · split at h
          · cases h
          · exact key hk pgs h (.inl rfl)
      · cases h

def shRows (sh : List Sheet) : List (List AV) := sh.map fun s => [.list .loose s.1, .int .i64 s.2]
def errR (e : Int) : AV := .tup [.agg [.int .i64 0, .nils], .int .i64 e]
def okR (last : Int) (sh : List Sheet) : AV := .tup [.agg [.int .i64 last, .list .loose (shRows sh)], .int .i64 0]
def badW (last0 last : Int) (pgs st : List (List AV)) : Bool := ((st.length : Int) != (pgs.length : Int)) || decide (last < last0) || decide (last > 1000000) || st.any (badN last)
def withOk (rows l pgs st : List (List AV)) : List Sheet := (pgs.zip st).foldl stampP (l.foldl layP (shOf rows))

/-- What a copy with pieces laid in it is. -/
def withR (last0 : Int) (rows l st : List (List AV)) (last : Int) : AV := if validB last0 rows = true then (match scan none l with
  | none => errR 2
  | some pgs => if badW last0 last pgs st = true then errR 2 else okR last (withOk rows l pgs st)) else errR 270

/-- An image that is being written: the variable that bears it at q. -/
structure WInv (base : Hp) (Hx : Hp) (q L : Nat) (locs : List Nat) (last0 : Int) (n : Nat) (sh : List Sheet) : Prop where
  img : Img Hx L locs sh
  o : Hx[q]? = some (.arr 24 2 [[.int .i64 last0, .row false L 0 n]])
  low : ∀ (k : Nat) (o : VO), base[k]? = some o → Hx[k]? = some o
  n : sh.length = n
  lq : base.length ≤ q
  lL : base.length ≤ L
  ll : ∀ l ∈ locs, base.length ≤ l
  qL : q ≠ L
  ql : ∀ l ∈ locs, l ≠ q
theorem Img.app {H : Hp} {L : Nat} {locs : List Nat} {sh : List Sheet} {g : Hp} (h : Img H L locs sh) : Img (H ++ g) L locs sh := by
  obtain ⟨rows, h1, h2, h3⟩ := h.row
  exact ⟨h.len, fun r hr => by rw [get_app h1] at hr; cases hr; exact h2, ⟨rows, get_app h1, h2, h3⟩, fun i l s hl hs => get_app (h.byt i l s hl hs), h.nd, h.ne⟩
theorem Img.other {H : Hp} {L k : Nat} {locs : List Nat} {sh : List Sheet} {o : VO} (h : Img H L locs sh) (h1 : k ≠ L) (h2 : k ∉ locs) : Img (H.set k o) L locs sh := by
  obtain ⟨rows, e1, e2, e3⟩ := h.row
  have g1 : (H.set k o)[L]? = some (.arr 50 2 rows) := get_set e1 h1
  exact ⟨h.len, fun r hr => by rw [g1] at hr; cases hr; exact e2, ⟨rows, g1, e2, e3⟩, fun i l s hl hs => get_set (h.byt i l s hl hs) (fun e => h2 (by rw [e]; exact List.mem_of_getElem? hl)), h.nd, h.ne⟩
theorem Img.byte {H : Hp} {L i l : Nat} {locs : List Nat} {sh : List Sheet} {s : Sheet} {b : List (List AV)} (h : Img H L locs sh) (hl : locs[i]? = some l) (hs : sh[i]? = some s) (hb : b.length = s.1.length) : Img (H.set l (.arr 5 1 b)) L locs (sh.set i (b, s.2)) := by
  obtain ⟨rows, e1, e2, e3⟩ := h.row
  have hlL := h.ne l (List.mem_of_getElem? hl)
  have g1 : (H.set l (.arr 5 1 b))[L]? = some (.arr 50 2 rows) := get_set e1 hlL
  have hi := (List.getElem?_eq_some_iff.1 hs).1
  have at' : ∀ (j : Nat) (s' : Sheet), (sh.set i (b, s.2))[j]? = some s' → (j = i ∧ s' = (b, s.2)) ∨ (j ≠ i ∧ sh[j]? = some s') := fun j s' hj => by
    by_cases hji : j = i
    · subst hji
      rw [List.getElem?_set_self hi] at hj
      cases hj; exact .inl ⟨rfl, rfl⟩
    · rw [List.getElem?_set_ne (Ne.symm hji)] at hj
      exact .inr ⟨hji, hj⟩
  refine ⟨by simp [h.len], fun r hr => by rw [g1] at hr; cases hr; simp [e2], ⟨rows, g1, by simp [e2], fun j l' s' hl' hs' => ?_⟩, fun j l' s' hl' hs' => ?_, h.nd, h.ne⟩
  · rcases at' j s' hs' with ⟨rfl, rfl⟩ | ⟨hne, hs'⟩
    · rw [e3 j l' s hl' hs]
      simp [hb]
    · exact e3 j l' s' hl' hs'
  · rcases at' j s' hs' with ⟨rfl, rfl⟩ | ⟨hne, hs'⟩
    · rw [hl] at hl'; cases hl'
      exact get_self (h.byt j l s hl hs)
    · refine get_set (h.byt j l' s' hl' hs') fun e => hne ?_
      subst e
      obtain ⟨a1, a2⟩ := List.getElem?_eq_some_iff.1 hl
      obtain ⟨b1, b2⟩ := List.getElem?_eq_some_iff.1 hl'
      exact (List.getElem_inj h.nd).1 (b2.trans a2.symm)
theorem Img.stamp {H : Hp} {L i l : Nat} {locs : List Nat} {sh : List Sheet} {s : Sheet} {k : Int} {rows : List (List AV)} (h : Img H L locs sh) (hr : H[L]? = some (.arr 50 2 rows)) (hl : locs[i]? = some l) (hs : sh[i]? = some s) : Img (H.set L (.arr 50 2 (rows.set i [.row false l 0 s.1.length, .int .i64 k]))) L locs (sh.set i (s.1, k)) := by
  obtain ⟨rows', e1, e2, e3⟩ := h.row
  rw [hr] at e1
  cases e1
  have hi := (List.getElem?_eq_some_iff.1 hs).1
  have g1 := get_self (o' := VO.arr 50 2 (rows.set i [.row false l 0 s.1.length, .int .i64 k])) hr
  have at' : ∀ (j : Nat) (s' : Sheet), (sh.set i (s.1, k))[j]? = some s' → (j = i ∧ s' = (s.1, k)) ∨ (j ≠ i ∧ sh[j]? = some s') := fun j s' hj => by
    by_cases hji : j = i
    · subst hji
      rw [List.getElem?_set_self hi] at hj
      cases hj; exact .inl ⟨rfl, rfl⟩
    · rw [List.getElem?_set_ne (Ne.symm hji)] at hj
      exact .inr ⟨hji, hj⟩
  refine ⟨by simp [h.len], fun r hr' => by rw [g1] at hr'; cases hr'; simp [e2], ⟨_, g1, by simp [e2], fun j l' s' hl' hs' => ?_⟩, fun j l' s' hl' hs' => ?_, h.nd, h.ne⟩
  · rcases at' j s' hs' with ⟨rfl, rfl⟩ | ⟨hne, hs'⟩
    · rw [hl] at hl'; cases hl'
      rw [List.getElem?_set_self (by omega)]
    · rw [List.getElem?_set_ne (Ne.symm hne)]
      exact e3 j l' s' hl' hs'
  · have hlL : L ≠ l' := fun e => h.ne l' (List.mem_of_getElem? hl') e.symm
    rcases at' j s' hs' with ⟨rfl, rfl⟩ | ⟨hne, hs'⟩
    · exact get_set (h.byt j l' s hl' hs) hlL
    · exact get_set (h.byt j l' s' hl' hs') hlL
section
variable {base Hx : Hp} {q L n : Nat} {locs : List Nat} {last0 : Int} {sh : List Sheet}
theorem WInv.app {g : Hp} (h : WInv base Hx q L locs last0 n sh) : WInv base (Hx ++ g) q L locs last0 n sh :=
  ⟨h.img.app, get_app h.o, fun k o hk => get_app (h.low k o hk), h.n, h.lq, h.lL, h.ll, h.qL, h.ql⟩
theorem WInv.byte {i l : Nat} {s : Sheet} {b : List (List AV)} (h : WInv base Hx q L locs last0 n sh) (hl : locs[i]? = some l) (hs : sh[i]? = some s) (hb : b.length = s.1.length) : WInv base (Hx.set l (.arr 5 1 b)) q L locs last0 n (sh.set i (b, s.2)) := by
  have hm := List.mem_of_getElem? hl
  exact ⟨h.img.byte hl hs hb, get_set h.o (h.ql l hm), fun k o hk => get_set (h.low k o hk) (by have := (List.getElem?_eq_some_iff.1 hk).1; have := h.ll l hm; omega), by simp [h.n], h.lq, h.lL, h.ll, h.qL, h.ql⟩
theorem WInv.stamp {i l : Nat} {s : Sheet} {k : Int} {rows : List (List AV)} (h : WInv base Hx q L locs last0 n sh) (hr : Hx[L]? = some (.arr 50 2 rows)) (hl : locs[i]? = some l) (hs : sh[i]? = some s) : WInv base (Hx.set L (.arr 50 2 (rows.set i [.row false l 0 s.1.length, .int .i64 k]))) q L locs last0 n (sh.set i (s.1, k)) :=
  ⟨h.img.stamp hr hl hs, get_set h.o (Ne.symm h.qL), fun k o hk => get_set (h.low k o hk) (by have := (List.getElem?_eq_some_iff.1 hk).1; have := h.lL; omega), by simp [h.n], h.lq, h.lL, h.ll, h.qL, h.ql⟩
/-- A page's row, and where its bytes lie. -/
theorem WInv.at {i : Nat} (h : WInv base Hx q L locs last0 n sh) (hi : i < n) : ∃ l s rows, locs[i]? = some l ∧ sh[i]? = some s ∧ Hx[L]? = some (.arr 50 2 rows) ∧ rows[i]? = some [.row false l 0 s.1.length, .int .i64 s.2] ∧ Hx[l]? = some (.arr 5 1 s.1) := by
  have hn := h.n
  have hlen := h.img.len
  obtain ⟨rows, e1, e2, e3⟩ := h.img.row
  have hl : locs[i]? = some locs[i] := List.getElem?_eq_getElem (by omega)
  have hs : sh[i]? = some sh[i] := List.getElem?_eq_getElem (by omega)
  exact ⟨_, _, rows, hl, hs, e1, e3 i _ _ hl hs, h.img.byt i _ _ hl hs⟩
end
theorem retD_row {d : Nat} {H : Hp} {l n : Nat} {b : Bool} {T : TypeId} {sz : Nat} {rows out : List (List AV)} (h : H[l]? = some (.arr T sz rows)) (hn : rows.length = n) (hr : mapL (mapL (retD d H)) rows = some out) : retD (d + 1) H (.row b l 0 n) = some (.list .loose out) := by
  subst hn
  have hro : rowsOf H (.row b l 0 rows.length) = some rows := by simp [rowsOf, h]
  show (match rowsOf H (.row b l 0 rows.length) with
    | some rows => (mapL (mapL (retD d H)) rows).map (AV.list .loose)
    | none => none) = _
  rw [hro]
  show (mapL (mapL (retD d H)) rows).map (AV.list .loose) = _
  rw [hr]
  rfl
theorem mapL_get2 {α β : Type} {f : α → Option β} : ∀ {xs : List α} {ys : List β}, xs.length = ys.length → (∀ (i : Nat) (x : α) (y : β), xs[i]? = some x → ys[i]? = some y → f x = some y) → mapL f xs = some ys
  | [], [], _, _ => rfl
  | x :: xs, y :: ys, hl, h => mapL_cons (h 0 x y rfl rfl) (mapL_get2 (by simpa using hl) fun i x y hx hy => h (i + 1) x y (by simpa using hx) (by simpa using hy))
theorem Img.ret {H : Hp} {L n : Nat} {locs : List Nat} {sh : List Sheet} (h : Img H L locs sh) (hn : sh.length = n) (hv : ShOk sh) : ret0 H (.row false L 0 n) = some (.list .loose (shRows sh)) := by
  obtain ⟨rows, e1, e2, e3⟩ := h.row
  refine retD_row e1 (by omega) (mapL_get2 (by simp [shRows, e2]) fun i r y hr hy => ?_)
  have hi : i < sh.length := by have := (List.getElem?_eq_some_iff.1 hr).1; omega
  have hi' : i < locs.length := by have := h.len; omega
  have hl : locs[i]? = some locs[i] := List.getElem?_eq_getElem hi'
  have hs : sh[i]? = some sh[i] := List.getElem?_eq_getElem hi
  have hrow := e3 i _ _ hl hs
  rw [hr] at hrow
  cases hrow
  have hy' : y = [.list .loose (sh[i]).1, .int .i64 (sh[i]).2] := by
    simp only [shRows] at hy
    rw [List.getElem?_map, hs] at hy
    cases hy; rfl
  subst hy'
  have hval := bytes_val (hv _ (List.mem_of_getElem? hs)).2
  refine mapL_cons (retD_row (h.byt i _ _ hl hs) rfl (mapL_id fun r hr => mapL_id fun x hx => retD_val (List.all_eq_true.1 (List.all_eq_true.1 hval r hr) x hx))) rfl
theorem ret_img {H : Hp} {last e : Int} {L n : Nat} {locs : List Nat} {sh : List Sheet} (h : Img H L locs sh) (hn : sh.length = n) (hv : ShOk sh) : retv H (.tup [.agg [.int .i64 last, .row false L 0 n], .int .i64 e]) = some (.tup [.agg [.int .i64 last, .list .loose (shRows sh)], .int .i64 e]) := by
  refine ret_tup2 ?_ rfl
  simp only [ret1, mapL, h.ret hn hv]
  rfl
/-- What a valid copy's pages are. -/
theorem valid_pages {last : Int} {rows : List (List AV)} (hv : validB last rows = true) (hp : ∀ r ∈ rows, PageOk r) : rows.length = 120 ∧ rows ≠ [] ∧ (∀ r ∈ rows, PageIs r) ∧ ShOk (shOf rows) := by
  simp only [validB, Bool.and_eq_true, decide_eq_true_eq, Bool.not_eq_true', List.any_eq_false] at hv
  obtain ⟨⟨⟨h1, h2⟩, h3⟩, h4⟩ := hv
  have h128 : ∀ b st, [b, AV.int .i64 st] ∈ rows → (lrows b).length = 128 := fun b st hr => by
    have := h4 _ hr
    simp only [badS, Bool.not_eq_true, Bool.or_eq_false_iff, bne_eq_false_iff_eq] at this
    omega
  refine ⟨by omega, fun e => by rw [e] at h3; simp at h3, fun r hr => ?_, fun s hs => ?_⟩
  · obtain ⟨b, st, rfl, hL, hb1, hb2⟩ := hp r hr
    have := h128 b st hr
    rcases hL with rfl | ⟨t, bs, rfl⟩
    · simp [lrows] at this
    · simp only [lrows] at this hb2
      exact ⟨t, bs, st, rfl, fun e => by rw [e] at this; simp at this, by omega, hb2⟩
  · obtain ⟨r, hr, rfl⟩ := List.mem_map.1 hs
    obtain ⟨b, st, rfl, hL, hb1, hb2⟩ := hp r hr
    exact ⟨h128 b st hr, hb2⟩
section
variable {P : Program} {H : Hp}
theorem g_slice0 {t T e : TypeId} {b : Bool} {l m sz : Nat} {rows : List (List AV)} {n : Int} (hu : P.underlying t = some (.slice e)) (hs : szOf P e = some sz) (h1 : H[l]? = some (.arr T sz rows)) (h0 : 0 ≤ n) (hn : n ≤ m) :
    (vslice P H t (.row b l 0 m) (some (.int .i64 n)) none none).map (·, H) = some (.row b l n.toNat (m - n.toNat), H) := by
  rw [g_slice hu hs h1 h0 hn, Nat.zero_add]
theorem g_copyL {t T e : TypeId} {b : Bool} {l i m sz : Nat} {rows rows' : List (List AV)} {x : AV} (he : elemAt P t = some (none, e, sz)) (h1 : H[l]? = some (.arr T sz rows)) (hx : srcRows H x = some rows') (hl : lenOk sz rows' = true) (h0 : sz ≠ 0) (hs : x.isStr = false) (hin : i + m ≤ rows.length) (hm : rows'.length ≤ m) :
    vcopy P H t (.row b l i m) x = some (.int .i64 (rows'.length : Nat), H.set l (.arr T sz (lay rows i rows'))) := by
  rw [g_copy he h1 hx hl h0 hs hin, Nat.min_eq_left hm, List.take_length]
  rfl
end
theorem IsL.notStr {x : AV} (h : IsL x) : x.isStr = false := by
  rcases h with rfl | ⟨t, rows, rfl⟩ <;> rfl
end Go.Vi
