/- Vi, part Fa: lists as trees, for computing. -/
set_option autoImplicit false
set_option linter.unusedVariables false
set_option linter.unusedSimpArgs false
namespace Go.Vi

/-- The way to a place: digits of four, the greatest first. -/
inductive Pt where
  | e
  | d0 (p : Pt)
  | d1 (p : Pt)
  | d2 (p : Pt)
  | d3 (p : Pt)
inductive Qt (α : Type) where
  | nil
  | leaf (a : α)
  | node (a b c d : Qt α)

variable {α β : Type}

noncomputable def digit (q : Nat) (p : Pt) : Pt :=
  Nat.rec (motive := fun _ => Pt) (.d0 p) (fun q1 _ => Nat.rec (motive := fun _ => Pt) (.d1 p) (fun q2 _ => Nat.rec (motive := fun _ => Pt) (.d2 p) (fun _ _ => .d3 p) q2) q1) q
noncomputable def path (D : Nat) : Nat → Pt :=
  Nat.rec (motive := fun _ => Nat → Pt) (fun _ => .e) (fun D ih n => digit (Nat.div n (Nat.pow 4 D)) (ih (Nat.mod n (Nat.pow 4 D)))) D
theorem path_succ (D n : Nat) : path (D + 1) n = digit (n / 4 ^ D) (path D (n % 4 ^ D)) := rfl

noncomputable def getP (p : Pt) : Qt α → Option α :=
  Pt.rec (motive := fun _ => Qt α → Option α) (fun t => Qt.rec (motive := fun _ => Option α) none (fun a => some a) (fun _ _ _ _ _ _ _ _ => none) t)
    (fun _ ih t => Qt.rec (motive := fun _ => Option α) none (fun _ => none) (fun a _ _ _ _ _ _ _ => ih a) t)
    (fun _ ih t => Qt.rec (motive := fun _ => Option α) none (fun _ => none) (fun _ b _ _ _ _ _ _ => ih b) t)
    (fun _ ih t => Qt.rec (motive := fun _ => Option α) none (fun _ => none) (fun _ _ c _ _ _ _ _ => ih c) t)
    (fun _ ih t => Qt.rec (motive := fun _ => Option α) none (fun _ => none) (fun _ _ _ d _ _ _ _ => ih d) t) p
noncomputable def setP (x : α) (p : Pt) : Qt α → Qt α :=
  Pt.rec (motive := fun _ => Qt α → Qt α) (fun _ => .leaf x)
    (fun _ ih t => Qt.rec (motive := fun _ => Qt α) (.node (ih .nil) .nil .nil .nil) (fun _ => .node (ih .nil) .nil .nil .nil) (fun a b c d _ _ _ _ => .node (ih a) b c d) t)
    (fun _ ih t => Qt.rec (motive := fun _ => Qt α) (.node .nil (ih .nil) .nil .nil) (fun _ => .node .nil (ih .nil) .nil .nil) (fun a b c d _ _ _ _ => .node a (ih b) c d) t)
    (fun _ ih t => Qt.rec (motive := fun _ => Qt α) (.node .nil .nil (ih .nil) .nil) (fun _ => .node .nil .nil (ih .nil) .nil) (fun a b c d _ _ _ _ => .node a b (ih c) d) t)
    (fun _ ih t => Qt.rec (motive := fun _ => Qt α) (.node .nil .nil .nil (ih .nil)) (fun _ => .node .nil .nil .nil (ih .nil)) (fun a b c d _ _ _ _ => .node a b c (ih d)) t) p

def Pt.len : Pt → Nat
  | .e => 0
  | .d0 p | .d1 p | .d2 p | .d3 p => p.len + 1
theorem digit_len (q : Nat) (p : Pt) : (digit q p).len = p.len + 1 := by
  match q with
  | 0 => rfl
  | 1 => rfl
  | 2 => rfl
  | _ + 3 => rfl
theorem path_len : ∀ (D n : Nat), (path D n).len = D
  | 0, n => rfl
  | D + 1, n => by rw [path_succ, digit_len, path_len D]
theorem digit_inj {q r : Nat} {p s : Pt} (hq : q < 4) (hr : r < 4) (h : digit q p = digit r s) : q = r ∧ p = s := by
  match q, r, hq, hr with
  | 0, 0, _, _ => cases h; exact ⟨rfl, rfl⟩
  | 1, 1, _, _ => cases h; exact ⟨rfl, rfl⟩
  | 2, 2, _, _ => cases h; exact ⟨rfl, rfl⟩
  | 3, 3, _, _ => cases h; exact ⟨rfl, rfl⟩
  | 0, 1, _, _ | 0, 2, _, _ | 0, 3, _, _ | 1, 0, _, _ | 1, 2, _, _ | 1, 3, _, _ | 2, 0, _, _ | 2, 1, _, _ | 2, 3, _, _ | 3, 0, _, _ | 3, 1, _, _ | 3, 2, _, _ => cases h
theorem path_inj : ∀ (D n m : Nat), n < 4 ^ D → m < 4 ^ D → path D n = path D m → n = m
  | 0, n, m, hn, hm, _ => by simp at hn hm; omega
  | D + 1, n, m, hn, hm, h => by
    rw [path_succ, path_succ] at h
    have hp : 0 < 4 ^ D := Nat.pow_pos (by omega)
    have h1 : n / 4 ^ D < 4 := by rw [Nat.div_lt_iff_lt_mul hp]; rw [Nat.pow_succ] at hn; omega
    have h2 : m / 4 ^ D < 4 := by rw [Nat.div_lt_iff_lt_mul hp]; rw [Nat.pow_succ] at hm; omega
    obtain ⟨a, b⟩ := digit_inj h1 h2 h
    have := path_inj D _ _ (Nat.mod_lt _ hp) (Nat.mod_lt _ hp) b
    rw [← Nat.div_add_mod n (4 ^ D), ← Nat.div_add_mod m (4 ^ D), a, this]
theorem getP_setP (x : α) : ∀ (p q : Pt) (t : Qt α), p.len = q.len → (p = q → getP q (setP x p t) = some x) ∧ (p ≠ q → getP q (setP x p t) = getP q t)
  | .e, .e, t, h => ⟨fun _ => rfl, fun h => absurd rfl h⟩
  | .d0 p, .d0 q, t, h => by
    cases t <;> exact ⟨fun e => (getP_setP x p q _ (by simpa [Pt.len] using h)).1 (by cases e; rfl), fun e => (getP_setP x p q _ (by simpa [Pt.len] using h)).2 (fun e' => e (by rw [e'])) |>.trans (by cases q <;> rfl)⟩
  | .d1 p, .d1 q, t, h => by
    cases t <;> exact ⟨fun e => (getP_setP x p q _ (by simpa [Pt.len] using h)).1 (by cases e; rfl), fun e => (getP_setP x p q _ (by simpa [Pt.len] using h)).2 (fun e' => e (by rw [e'])) |>.trans (by cases q <;> rfl)⟩
  | .d2 p, .d2 q, t, h => by
    cases t <;> exact ⟨fun e => (getP_setP x p q _ (by simpa [Pt.len] using h)).1 (by cases e; rfl), fun e => (getP_setP x p q _ (by simpa [Pt.len] using h)).2 (fun e' => e (by rw [e'])) |>.trans (by cases q <;> rfl)⟩
  | .d3 p, .d3 q, t, h => by
    cases t <;> exact ⟨fun e => (getP_setP x p q _ (by simpa [Pt.len] using h)).1 (by cases e; rfl), fun e => (getP_setP x p q _ (by simpa [Pt.len] using h)).2 (fun e' => e (by rw [e'])) |>.trans (by cases q <;> rfl)⟩
  | .e, .d0 q, t, h | .e, .d1 q, t, h | .e, .d2 q, t, h | .e, .d3 q, t, h | .d0 p, .e, t, h | .d1 p, .e, t, h | .d2 p, .e, t, h | .d3 p, .e, t, h => by simp [Pt.len] at h
  | .d0 p, .d1 q, t, h | .d0 p, .d2 q, t, h | .d0 p, .d3 q, t, h | .d1 p, .d0 q, t, h | .d1 p, .d2 q, t, h | .d1 p, .d3 q, t, h | .d2 p, .d0 q, t, h | .d2 p, .d1 q, t, h | .d2 p, .d3 q, t, h | .d3 p, .d0 q, t, h | .d3 p, .d1 q, t, h | .d3 p, .d2 q, t, h => by
    cases t <;> exact ⟨fun e => (by cases e), fun _ => (by cases q <;> rfl)⟩

/-- How many digits a way has. -/
inductive Dp where
  | two
  | four
  | six
  | oth (n : Nat)
def Dp.val : Dp → Nat
  | .two => 2
  | .four => 4
  | .six => 6
  | .oth n => n
noncomputable def Dp.up (D : Dp) : Dp := Dp.rec (motive := fun _ => Dp) .four .six (.oth 8) (fun n => .oth (n + 2)) D
theorem Dp.up_val (D : Dp) : D.up.val = D.val + 2 := by cases D <;> rfl
noncomputable def getN (c D : Nat) (n : Nat) (q : Qt α) : Option α := Bool.rec (motive := fun _ => Option α) none (getP (path D n) q) (Nat.blt n c)
noncomputable def getD (D : Dp) : Nat → Qt α → Option α :=
  Dp.rec (motive := fun _ => Nat → Qt α → Option α) (getN 16 2) (getN 256 4) (getN 4096 6) (fun d => getN (Nat.pow 4 d) d) D

/-- A list by its places, 4 ^ D of them. -/
structure Br (α : Type) where
  D : Dp
  t : Qt α

noncomputable def setN (c D : Nat) (Dd Du : Dp) (n : Nat) (a : α) (q : Qt α) : Br α :=
  Bool.rec (motive := fun _ => Br α) ⟨Du, setP a (path (D + 2) n) (.node (.node q .nil .nil .nil) .nil .nil .nil)⟩ ⟨Dd, setP a (path D n) q⟩ (Nat.blt n c)
noncomputable def setD (D : Dp) : Nat → α → Qt α → Br α :=
  Dp.rec (motive := fun _ => Nat → α → Qt α → Br α) (setN 16 2 .two .four) (setN 256 4 .four .six) (setN 4096 6 .six (.oth 8)) (fun d => setN (Nat.pow 4 d) d (.oth d) (.oth (d + 2))) D

noncomputable def Br.get (t : Br α) (n : Nat) : Option α := Br.rec (motive := fun _ => Option α) (fun D q => getD D n q) t
noncomputable def Br.set (t : Br α) (n : Nat) (a : α) : Br α := Br.rec (motive := fun _ => Br α) (fun D q => setD D n a q) t

theorem Br.get_def (t : Br α) (n : Nat) : t.get n = Bool.rec (motive := fun _ => Option α) none (getP (path t.D.val n) t.t) (Nat.blt n (Nat.pow 4 t.D.val)) := by
  obtain ⟨D, q⟩ := t
  cases D <;> rfl
theorem Br.set_def (t : Br α) (n : Nat) (a : α) : t.set n a =
    Bool.rec (motive := fun _ => Br α) ⟨t.D.up, setP a (path (t.D.val + 2) n) (.node (.node t.t .nil .nil .nil) .nil .nil .nil)⟩ ⟨t.D, setP a (path t.D.val n) t.t⟩ (Nat.blt n (Nat.pow 4 t.D.val)) := by
  obtain ⟨D, q⟩ := t
  cases D <;> rfl

theorem Br.get_in {t : Br α} {n : Nat} (h : n < 4 ^ t.D.val) : t.get n = getP (path t.D.val n) t.t := by
  rw [get_def]
  have : Nat.blt n (Nat.pow 4 t.D.val) = true := Nat.blt_eq.mpr h
  rw [this]
theorem Br.get_out {t : Br α} {n : Nat} (h : ¬ n < 4 ^ t.D.val) : t.get n = none := by
  rw [get_def]
  have : Nat.blt n (Nat.pow 4 t.D.val) = false := by
    cases hb : Nat.blt n (Nat.pow 4 t.D.val) with
    | false => rfl
    | true => exact absurd (Nat.blt_eq.mp hb) h
  rw [this]
theorem path_up (D n : Nat) (h : n < 4 ^ D) : path (D + 1) n = .d0 (path D n) := by
  rw [path_succ, Nat.div_eq_of_lt h, Nat.mod_eq_of_lt h]; rfl

/-- A place that can be written. -/
def Br.way (t : Br α) (n : Nat) : Prop := n < 16 * 4 ^ t.D.val
theorem Br.way_get (t : Br α) (n : Nat) (h : (t.get n).isSome = true) : t.way n := by
  unfold way
  by_cases hn : n < 4 ^ t.D.val
  · omega
  · rw [get_out hn] at h; cases h
theorem Br.get_set (t : Br α) (n k : Nat) (a : α) (h : t.way n) : (t.set n a).get k = if k = n then some a else t.get k := by
  unfold way at h
  obtain ⟨d, hd⟩ : ∃ d, d = t.D.val := ⟨_, rfl⟩
  rw [← hd] at h
  by_cases hn : n < 4 ^ t.D.val
  · have e : t.set n a = ⟨t.D, setP a (path t.D.val n) t.t⟩ := by
      rw [set_def]
      have : Nat.blt n (Nat.pow 4 t.D.val) = true := Nat.blt_eq.mpr hn
      rw [this]
    rw [e]
    by_cases hk : k < 4 ^ t.D.val
    · rw [get_in (t := ⟨t.D, setP a (path t.D.val n) t.t⟩) hk, get_in hk]
      have := getP_setP a (path t.D.val n) (path t.D.val k) t.t (by rw [path_len, path_len])
      by_cases hkn : k = n
      · subst hkn; rw [if_pos rfl]; exact this.1 rfl
      · rw [if_neg hkn]; exact this.2 (fun e => hkn (path_inj _ _ _ hn hk e).symm)
    · rw [get_out (t := ⟨t.D, setP a (path t.D.val n) t.t⟩) hk, get_out hk, if_neg (by omega)]
  · have e : t.set n a = ⟨t.D.up, setP a (path (d + 2) n) (.node (.node t.t .nil .nil .nil) .nil .nil .nil)⟩ := by
      rw [set_def]
      have : Nat.blt n (Nat.pow 4 t.D.val) = false := by
        cases hb : Nat.blt n (Nat.pow 4 t.D.val) with
        | false => rfl
        | true => exact absurd (Nat.blt_eq.mp hb) hn
      rw [this, hd]
    have hp : (4 : Nat) ^ (d + 2) = 16 * 4 ^ d := by rw [Nat.pow_add]; omega
    have hn2 : n < 4 ^ (d + 2) := by rw [hp]; exact h
    rw [e]
    have old : ∀ k, k < 4 ^ (d + 2) → getP (path (d + 2) k) (.node (.node t.t .nil .nil .nil) .nil .nil .nil) = t.get k := by
      intro k hk
      by_cases hk1 : k < 4 ^ d
      · have hk2 : k < 4 ^ (d + 1) := by rw [Nat.pow_succ]; omega
        rw [path_up _ _ hk2, path_up _ _ hk1, get_in (by rw [← hd]; exact hk1), ← hd]
        rfl
      · rw [get_out (by rw [← hd]; exact hk1)]
        have nn : ∀ (p : Pt), getP p (Qt.nil : Qt α) = none := fun p => by cases p <;> rfl
        rw [path_succ]
        rcases Nat.lt_or_ge k (4 ^ (d + 1)) with hk2 | hk2
        · rw [Nat.div_eq_of_lt hk2, Nat.mod_eq_of_lt hk2]
          show getP (path (d + 1) k) (.node t.t .nil .nil .nil) = none
          rw [path_succ]
          have h0 : k / 4 ^ d ≠ 0 := fun h0 => hk1 ((Nat.div_eq_zero_iff.1 h0).resolve_left (by have := Nat.pow_pos (n := d) (show 0 < 4 by omega); omega))
          match hq : k / 4 ^ d, h0 with
          | 1, _ => exact nn _
          | 2, _ => exact nn _
          | _ + 3, _ => exact nn _
        · have h0 : k / 4 ^ (d + 1) ≠ 0 := fun h0 => by
            have := (Nat.div_eq_zero_iff.1 h0).resolve_left (by have := Nat.pow_pos (n := d + 1) (show 0 < 4 by omega); omega)
            omega
          match hq : k / 4 ^ (d + 1), h0 with
          | 1, _ => exact nn _
          | 2, _ => exact nn _
          | _ + 3, _ => exact nn _
    have hu : t.D.up.val = d + 2 := by rw [Dp.up_val, hd]
    by_cases hk : k < 4 ^ (d + 2)
    · rw [get_in (t := ⟨t.D.up, _⟩) (by rw [hu]; exact hk)]
      simp only [hu]
      have := getP_setP a (path (d + 2) n) (path (d + 2) k) (.node (.node t.t .nil .nil .nil) .nil .nil .nil) (by rw [path_len, path_len])
      by_cases hkn : k = n
      · subst hkn; rw [if_pos rfl]; exact this.1 rfl
      · rw [if_neg hkn]
        exact (this.2 (fun e => hkn (path_inj _ _ _ hn2 hk e).symm)).trans (old k hk)
    · rw [get_out (t := ⟨t.D.up, _⟩) (by rw [hu]; exact hk), if_neg (by omega), get_out (by rw [← hd]; rw [hp] at hk; omega)]

/-- Just the places below n are there. -/
def Br.ex (t : Br α) (n : Nat) : Prop := ∀ i, (t.get i).isSome = true ↔ i < n

theorem Br.way_end (t : Br α) (n : Nat) (h : ∀ i, i < n → (t.get i).isSome = true) : t.way n := by
  cases n with
  | zero => unfold way; have := Nat.pow_pos (n := t.D.val) (show 0 < 4 by omega); omega
  | succ n =>
    have := h n (by omega)
    by_cases hn : n < 4 ^ t.D.val
    · unfold way; omega
    · rw [get_out hn] at this; cases this

noncomputable def Br.toL (t : Br α) (n : Nat) : List α := (List.range n).filterMap t.get

theorem Br.ex.toL_get {t : Br α} {n : Nat} (h : t.ex n) : ∀ i, (t.toL n)[i]? = t.get i := by
  have key : ∀ m, m ≤ n → (t.toL m).length = m ∧ ∀ i, (t.toL m)[i]? = if i < m then t.get i else none := by
    intro m
    induction m with
    | zero => intro _; exact ⟨rfl, fun i => by simp [toL]⟩
    | succ m ih =>
      intro hm
      obtain ⟨h1, h2⟩ := ih (by omega)
      obtain ⟨a, ha⟩ := Option.isSome_iff_exists.1 ((h m).2 (by omega))
      have e : t.toL (m + 1) = t.toL m ++ [a] := by simp [toL, List.range_succ, ha]
      refine ⟨by rw [e, List.length_append, h1]; rfl, fun i => ?_⟩
      rw [e]
      by_cases hi : i < m
      · rw [List.getElem?_append_left (by omega), h2, if_pos hi, if_pos (by omega)]
      · rw [List.getElem?_append_right (by omega), h1]
        by_cases hi2 : i = m
        · subst hi2
          rw [Nat.sub_self, if_pos (by omega), ha]; rfl
        · rw [if_neg (by omega)]
          obtain ⟨q, hq⟩ : ∃ q, i - m = q + 1 := ⟨i - m - 1, by omega⟩
          rw [hq]; rfl
  intro i
  rw [(key n (Nat.le_refl _)).2]
  split
  · rfl
  · rename_i hi
    cases hg : t.get i with
    | none => rfl
    | some a => exact absurd ((h i).1 (by rw [hg]; rfl)) hi

theorem Br.ex.len {t : Br α} {n : Nat} (h : t.ex n) : (t.toL n).length = n := by
  apply Nat.le_antisymm
  · unfold toL
    have := List.length_filterMap_le t.get (List.range n)
    simpa using this
  · rcases Nat.lt_or_ge (t.toL n).length n with hlt | hge
    · have h1 := (h _).2 hlt
      rw [← h.toL_get] at h1
      rw [List.getElem?_eq_none (Nat.le_refl _)] at h1
      cases h1
    · exact hge

theorem Br.ex.set {t : Br α} {n i : Nat} (h : t.ex n) (hi : i < n) (a : α) : (t.set i a).ex n ∧ (t.set i a).toL n = (t.toL n).set i a := by
  have hw := t.way_get i ((h i).2 hi)
  have e : (t.set i a).ex n := fun j => by
    rw [get_set _ _ _ _ hw]
    split
    · rename_i hj; subst hj; exact ⟨fun _ => hi, fun _ => rfl⟩
    · exact h j
  refine ⟨e, List.ext_getElem? fun j => ?_⟩
  rw [e.toL_get, get_set _ _ _ _ hw, List.getElem?_set, h.toL_get, h.len]
  by_cases hj : j = i
  · subst hj; rw [if_pos rfl, if_pos rfl, if_pos hi]
  · rw [if_neg hj, if_neg (Ne.symm hj)]

theorem Br.ex.push {t : Br α} {n : Nat} (h : t.ex n) (a : α) : (t.set n a).ex (n + 1) ∧ (t.set n a).toL (n + 1) = t.toL n ++ [a] := by
  have hw := t.way_end n (fun i hi => (h i).2 hi)
  have e : (t.set n a).ex (n + 1) := fun j => by
    rw [get_set _ _ _ _ hw]
    split
    · rename_i hj; subst hj; exact ⟨fun _ => by omega, fun _ => rfl⟩
    · rw [h j]; omega
  refine ⟨e, List.ext_getElem? fun j => ?_⟩
  rw [e.toL_get, get_set _ _ _ _ hw]
  by_cases hj : j < n
  · rw [if_neg (by omega), List.getElem?_append_left (by rw [h.len]; exact hj), h.toL_get]
  · rw [List.getElem?_append_right (by rw [h.len]; omega), h.len]
    by_cases hj2 : j = n
    · subst hj2; rw [if_pos rfl, Nat.sub_self]; rfl
    · rw [if_neg hj2]
      obtain ⟨q, hq⟩ : ∃ q, j - n = q + 1 := ⟨j - n - 1, by omega⟩
      rw [hq]
      cases hg : t.get j with
      | none => rfl
      | some b => exact absurd ((h j).1 (by rw [hg]; rfl)) hj

/-- Several places one behind the other written. -/
noncomputable def Br.put (t : Br α) (i : Nat) (l : List α) : Br α :=
  List.rec (motive := fun _ => Nat → Br α → Br α) (fun _ t => t) (fun a _ ih i t => ih (Nat.succ i) (t.set i a)) l i t
theorem Br.put_nil (t : Br α) (i : Nat) : t.put i [] = t := rfl
theorem Br.put_cons (t : Br α) (i : Nat) (a : α) (l : List α) : t.put i (a :: l) = (t.set i a).put (i + 1) l := rfl

theorem Br.ex.put {n : Nat} : ∀ {l : List α} {t : Br α} {i : Nat}, t.ex n → i + l.length ≤ n → (t.put i l).ex n ∧ (t.put i l).toL n = (t.toL n).take i ++ l ++ (t.toL n).drop (i + l.length)
  | [], t, i, h, hi => ⟨h, by simp [put_nil]⟩
  | a :: l, t, i, h, hi => by
    rw [put_cons]
    simp only [List.length_cons] at hi
    obtain ⟨e1, e2⟩ := h.set (i := i) (by omega) a
    obtain ⟨f1, f2⟩ := Br.ex.put (l := l) (i := i + 1) e1 (by omega)
    refine ⟨f1, ?_⟩
    rw [f2, e2]
    have hl : i < (t.toL n).length := by rw [h.len]; omega
    apply List.ext_getElem?
    intro j
    have L1 : (((t.toL n).set i a).take (i + 1)).length = i + 1 := by simp; omega
    have L2 : ((t.toL n).take i).length = i := by simp; omega
    rw [List.append_assoc, List.append_assoc]
    by_cases h1 : j < i
    · rw [List.getElem?_append_left (by omega), List.getElem?_append_left (by omega), List.getElem?_take, if_pos (by omega), List.getElem?_take, if_pos h1, List.getElem?_set_ne (by omega)]
    · by_cases h2 : j = i
      · subst h2
        rw [List.getElem?_append_left (by omega), List.getElem?_append_right (by omega), L2, Nat.sub_self, List.getElem?_take, if_pos (by omega), List.getElem?_set_self hl]
        rfl
      · obtain ⟨q, hq⟩ : ∃ q, j = i + 1 + q := ⟨j - (i + 1), by omega⟩
        subst hq
        rw [List.getElem?_append_right (l₁ := ((t.toL n).set i a).take (i + 1)) (by rw [L1]; omega), L1, List.getElem?_append_right (l₁ := (t.toL n).take i) (by rw [L2]; omega), L2]
        rw [show i + 1 + q - (i + 1) = q by omega, show i + 1 + q - i = q + 1 by omega, List.cons_append, List.getElem?_cons_succ]
        by_cases h3 : q < l.length
        · rw [List.getElem?_append_left h3, List.getElem?_append_left h3]
        · rw [List.getElem?_append_right (by omega), List.getElem?_append_right (by omega), List.getElem?_drop, List.getElem?_drop, List.getElem?_set_ne (by omega)]
          congr 1
          simp only [List.length_cons]
          omega

theorem Br.ex.puts {l : List α} : ∀ {t : Br α} {n : Nat}, t.ex n → (t.put n l).ex (n + l.length) ∧ (t.put n l).toL (n + l.length) = t.toL n ++ l := by
  induction l with
  | nil => intro t n h; exact ⟨h, by simp [put_nil]⟩
  | cons a l ih =>
    intro t n h
    rw [put_cons]
    obtain ⟨e1, e2⟩ := h.push a
    obtain ⟨f1, f2⟩ := ih e1
    rw [List.length_cons, show n + (l.length + 1) = n + 1 + l.length by omega]
    exact ⟨f1, by rw [f2, e2]; simp⟩

def Br.nil : Br α := ⟨.six, .nil⟩
theorem Br.nil_get (i : Nat) : (Br.nil : Br α).get i = none := by
  by_cases h : i < 4 ^ (Br.nil : Br α).D.val
  · rw [get_in h]
    generalize path (Br.nil : Br α).D.val i = p
    cases p <;> rfl
  · exact get_out h
theorem Br.ex_nil : (Br.nil : Br α).ex 0 := fun i => ⟨fun h => (by rw [nil_get] at h; cases h), fun h => by omega⟩

/-- A list's rest. -/
noncomputable def dropR (l : List α) : Nat → List α :=
  List.rec (motive := fun _ => Nat → List α) (fun _ => []) (fun a r ih n => Nat.rec (motive := fun _ => List α) (a :: r) (fun m _ => ih m) n) l
theorem dropR_eq : ∀ (l : List α) (n : Nat), dropR l n = l.drop n
  | [], n => by cases n <;> rfl
  | a :: r, 0 => rfl
  | a :: r, n + 1 => dropR_eq r n
noncomputable def ofQ (D : Nat) : List α → Qt α :=
  Nat.rec (motive := fun _ => List α → Qt α) (fun l => List.rec (motive := fun _ => Qt α) .nil (fun a _ _ => .leaf a) l)
    (fun D ih l => .node (ih l) (ih (dropR l (Nat.pow 4 D))) (ih (dropR l (Nat.mul 2 (Nat.pow 4 D)))) (ih (dropR l (Nat.mul 3 (Nat.pow 4 D))))) D
theorem ofQ_get : ∀ (D : Nat) (l : List α) (i : Nat), i < 4 ^ D → getP (path D i) (ofQ D l) = l[i]?
  | 0, l, i, h => by
    have : i = 0 := by simp at h; omega
    subst this
    cases l <;> rfl
  | D + 1, l, i, h => by
    have hp : 0 < 4 ^ D := Nat.pow_pos (by omega)
    have hm := Nat.mod_lt i hp
    have hd := Nat.div_add_mod i (4 ^ D)
    rw [path_succ]
    have hq : i / 4 ^ D < 4 := by rw [Nat.div_lt_iff_lt_mul hp]; rw [Nat.pow_succ] at h; omega
    have e : ofQ (D + 1) l = .node (ofQ D l) (ofQ D (dropR l (4 ^ D))) (ofQ D (dropR l (2 * 4 ^ D))) (ofQ D (dropR l (3 * 4 ^ D))) := rfl
    rw [e]
    match hq0 : i / 4 ^ D, hq with
    | 0, _ =>
      rw [hq0] at hd
      show getP (path D (i % 4 ^ D)) (ofQ D l) = _
      rw [ofQ_get D l _ hm]
      congr 1
      omega
    | 1, _ =>
      rw [hq0] at hd
      show getP (path D (i % 4 ^ D)) (ofQ D (dropR l (4 ^ D))) = _
      rw [ofQ_get D _ _ hm, dropR_eq, List.getElem?_drop]
      congr 1
      omega
    | 2, _ =>
      rw [hq0] at hd
      show getP (path D (i % 4 ^ D)) (ofQ D (dropR l (2 * 4 ^ D))) = _
      rw [ofQ_get D _ _ hm, dropR_eq, List.getElem?_drop]
      congr 1
      omega
    | 3, _ =>
      rw [hq0] at hd
      show getP (path D (i % 4 ^ D)) (ofQ D (dropR l (3 * 4 ^ D))) = _
      rw [ofQ_get D _ _ hm, dropR_eq, List.getElem?_drop]
      congr 1
      omega
/-- How deep a tree of so many places is made. -/
noncomputable def deep (n : Nat) : Dp :=
  Bool.rec (motive := fun _ => Dp) (Bool.rec (motive := fun _ => Dp) (Bool.rec (motive := fun _ => Dp) (.oth n) .six (Nat.ble n 4096)) .four (Nat.ble n 256)) .two (Nat.ble n 16)
theorem deep_le (n : Nat) : n ≤ 4 ^ (deep n).val := by
  unfold deep
  cases h1 : Nat.ble n 16 with
  | true => exact Nat.le_of_ble_eq_true h1
  | false =>
    cases h2 : Nat.ble n 256 with
    | true => exact Nat.le_of_ble_eq_true h2
    | false =>
      cases h3 : Nat.ble n 4096 with
      | true => exact Nat.le_of_ble_eq_true h3
      | false =>
        show n ≤ 4 ^ n
        exact Nat.le_of_lt (Nat.lt_pow_self (by omega))
noncomputable def ofLD (l : List α) (D : Dp) : Br α :=
  Dp.rec (motive := fun _ => Br α) ⟨.two, ofQ 2 l⟩ ⟨.four, ofQ 4 l⟩ ⟨.six, ofQ 6 l⟩ (fun n => ⟨.oth n, ofQ n l⟩) D
theorem ofLD_eq (l : List α) (D : Dp) : ofLD l D = ⟨D, ofQ D.val l⟩ := by cases D <;> rfl
noncomputable def Br.ofL (l : List α) : Br α := ofLD l (deep l.length)
theorem Br.ofL_get (l : List α) (i : Nat) : (Br.ofL l).get i = l[i]? := by
  have hd := deep_le l.length
  unfold ofL
  rw [ofLD_eq]
  by_cases h : i < 4 ^ (deep l.length).val
  · rw [get_in (t := ⟨deep l.length, _⟩) h]
    exact ofQ_get _ l i h
  · rw [get_out (t := ⟨deep l.length, _⟩) h, List.getElem?_eq_none]
    omega
theorem Br.ofL_ex (l : List α) : (Br.ofL l).ex l.length ∧ (Br.ofL l).toL l.length = l := by
  have e : (Br.ofL l).ex l.length := fun i => by rw [ofL_get]; simp
  refine ⟨e, List.ext_getElem? fun i => ?_⟩
  rw [e.toL_get]
  exact ofL_get l i

/-- As many places as told, all alike. -/
noncomputable def repQ (x : α) (D : Nat) : Nat → Qt α :=
  Nat.rec (motive := fun _ => Nat → Qt α) (fun n => Nat.rec (motive := fun _ => Qt α) .nil (fun _ _ => .leaf x) n)
    (fun D ih n => .node (ih n) (ih (Nat.sub n (Nat.pow 4 D))) (ih (Nat.sub n (Nat.mul 2 (Nat.pow 4 D)))) (ih (Nat.sub n (Nat.mul 3 (Nat.pow 4 D))))) D
theorem repQ_get (x : α) : ∀ (D n i : Nat), i < 4 ^ D → getP (path D i) (repQ x D n) = if i < n then some x else none
  | 0, n, i, h => by
    have : i = 0 := by simp at h; omega
    subst this
    cases n <;> rfl
  | D + 1, n, i, h => by
    have hp : 0 < 4 ^ D := Nat.pow_pos (by omega)
    have hm := Nat.mod_lt i hp
    have hd := Nat.div_add_mod i (4 ^ D)
    rw [path_succ]
    have hq : i / 4 ^ D < 4 := by rw [Nat.div_lt_iff_lt_mul hp]; rw [Nat.pow_succ] at h; omega
    have e : repQ x (D + 1) n = .node (repQ x D n) (repQ x D (n - 4 ^ D)) (repQ x D (n - 2 * 4 ^ D)) (repQ x D (n - 3 * 4 ^ D)) := rfl
    have fin : ∀ q, q * 4 ^ D + i % 4 ^ D = i → getP (path D (i % 4 ^ D)) (repQ x D (n - q * 4 ^ D)) = if i < n then some x else none := fun q hqi => by
      rw [repQ_get x D _ _ hm]
      by_cases h1 : i < n
      · rw [if_pos (by omega), if_pos h1]
      · rw [if_neg (by omega), if_neg h1]
    rw [e]
    match hq0 : i / 4 ^ D, hq with
    | 0, _ => rw [hq0] at hd; have := fin 0 (by omega); rw [Nat.zero_mul, Nat.sub_zero] at this; exact this
    | 1, _ => rw [hq0] at hd; have := fin 1 (by omega); rw [Nat.one_mul] at this; exact this
    | 2, _ => rw [hq0] at hd; exact fin 2 (by omega)
    | 3, _ => rw [hq0] at hd; exact fin 3 (by omega)
noncomputable def repD (x : α) (n : Nat) (D : Dp) : Br α :=
  Dp.rec (motive := fun _ => Br α) ⟨.two, repQ x 2 n⟩ ⟨.four, repQ x 4 n⟩ ⟨.six, repQ x 6 n⟩ (fun d => ⟨.oth d, repQ x d n⟩) D
theorem repD_eq (x : α) (n : Nat) (D : Dp) : repD x n D = ⟨D, repQ x D.val n⟩ := by cases D <;> rfl
noncomputable def Br.rep (x : α) (n : Nat) : Br α := repD x n (deep n)
theorem Br.rep_get (x : α) (n i : Nat) : (Br.rep x n).get i = if i < n then some x else none := by
  have hd := deep_le n
  unfold rep
  rw [repD_eq]
  by_cases h : i < 4 ^ (deep n).val
  · rw [get_in (t := ⟨deep n, _⟩) h]
    exact repQ_get x _ n i h
  · rw [get_out (t := ⟨deep n, _⟩) h, if_neg]
    omega
theorem Br.rep_ex (x : α) (n : Nat) : (Br.rep x n).ex n ∧ (Br.rep x n).toL n = List.replicate n x := by
  have e : (Br.rep x n).ex n := fun i => by
    rw [rep_get x n i]
    split
    · rename_i h; exact ⟨fun _ => h, fun _ => rfl⟩
    · rename_i h; exact ⟨fun h' => (by cases h'), fun h' => absurd h' h⟩
  refine ⟨e, List.ext_getElem? fun i => ?_⟩
  rw [e.toL_get, rep_get x n i, List.getElem?_replicate]

/-- Places one behind the other, read. -/
noncomputable def Br.seg (t : Br α) (i k : Nat) : List α :=
  Nat.rec (motive := fun _ => Nat → List α) (fun _ => []) (fun _ ih i => Option.rec (motive := fun _ => List α) [] (fun a => a :: ih (Nat.succ i)) (t.get i)) k i
theorem Br.seg_succ (t : Br α) (i k : Nat) : t.seg i (k + 1) = match t.get i with | some a => a :: t.seg (i + 1) k | none => [] := by
  show Option.rec (motive := fun _ => List α) [] (fun a => a :: t.seg (Nat.succ i) k) (t.get i) = _
  cases t.get i <;> rfl
theorem Br.ex.seg {t : Br α} {n : Nat} (h : t.ex n) : ∀ {k i : Nat}, i + k ≤ n → t.seg i k = ((t.toL n).drop i).take k
  | 0, i, _ => by rw [List.take_zero]; rfl
  | k + 1, i, hi => by
    rw [seg_succ]
    obtain ⟨a, ha⟩ := Option.isSome_iff_exists.1 ((h i).2 (by omega))
    rw [ha]
    simp only
    rw [h.seg (k := k) (i := i + 1) (by omega)]
    have e : (t.toL n).drop i = a :: (t.toL n).drop (i + 1) := by
      have hg := h.toL_get i
      rw [ha] at hg
      obtain ⟨hlt, hx⟩ := List.getElem?_eq_some_iff.1 hg
      rw [← hx]
      exact List.drop_eq_getElem_cons hlt
    rw [e, List.take_succ_cons]
end Go.Vi
