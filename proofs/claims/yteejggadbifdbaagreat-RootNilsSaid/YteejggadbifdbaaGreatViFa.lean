/- Vi, part Fa: lists as trees, for computing. -/
import Derived.Test.YteejggadbifdbaaGreatViR
section
set_option autoImplicit false
set_option linter.unusedVariables false
set_option linter.unusedSimpArgs false
namespace Go.Vi

/-- The way to a place: digits of four, the greatest first. -/
inductive Pt where
  | e
  | d0 (p : Pt)
  | d1 (p : Pt)
  | d2 (p : Pt)
  | d3 (p : Pt)
inductive Qt (α : Type) where
  | nil
  | leaf (a : α)
  | node (a b c d : Qt α)

variable {α β : Type}

noncomputable def digit (q : Nat) (p : Pt) : Pt :=
  Nat.rec (motive := fun _ => Pt) (.d0 p) (fun q1 _ => Nat.rec (motive := fun _ => Pt) (.d1 p) (fun q2 _ => Nat.rec (motive := fun _ => Pt) (.d2 p) (fun _ _ => .d3 p) q2) q1) q
noncomputable def path (D : Nat) : Nat → Pt :=
  Nat.rec (motive := fun _ => Nat → Pt) (fun _ => .e) (fun D ih n => digit (Nat.div n (Nat.pow 4 D)) (ih (Nat.mod n (Nat.pow 4 D)))) D
theorem path_succ (D n : Nat) : path (D + 1) n = digit (n / 4 ^ D) (path D (n % 4 ^ D)) := rfl

noncomputable def getP (p : Pt) : Qt α → Option α :=
  Pt.rec (motive := fun _ => Qt α → Option α) (fun t => Qt.rec (motive := fun _ => Option α) none (fun a => some a) (fun _ _ _ _ _ _ _ _ => none) t)
    (fun _ ih t => Qt.rec (motive := fun _ => Option α) none (fun _ => none) (fun a _ _ _ _ _ _ _ => ih a) t)
    (fun _ ih t => Qt.rec (motive := fun _ => Option α) none (fun _ => none) (fun _ b _ _ _ _ _ _ => ih b) t)
    (fun _ ih t => Qt.rec (motive := fun _ => Option α) none (fun _ => none) (fun _ _ c _ _ _ _ _ => ih c) t)
    (fun _ ih t => Qt.rec (motive := fun _ => Option α) none (fun _ => none) (fun _ _ _ d _ _ _ _ => ih d) t) p
noncomputable def setP (x : α) (p : Pt) : Qt α → Qt α :=
  Pt.rec (motive := fun _ => Qt α → Qt α) (fun _ => .leaf x)
    (fun _ ih t => Qt.rec (motive := fun _ => Qt α) (.node (ih .nil) .nil .nil .nil) (fun _ => .node (ih .nil) .nil .nil .nil) (fun a b c d _ _ _ _ => .node (ih a) b c d) t)
    (fun _ ih t => Qt.rec (motive := fun _ => Qt α) (.node .nil (ih .nil) .nil .nil) (fun _ => .node .nil (ih .nil) .nil .nil) (fun a b c d _ _ _ _ => .node a (ih b) c d) t)
    (fun _ ih t => Qt.rec (motive := fun _ => Qt α) (.node .nil .nil (ih .nil) .nil) (fun _ => .node .nil .nil (ih .nil) .nil) (fun a b c d _ _ _ _ => .node a b (ih c) d) t)
    (fun _ ih t => Qt.rec (motive := fun _ => Qt α) (.node .nil .nil .nil (ih .nil)) (fun _ => .node .nil .nil .nil (ih .nil)) (fun a b c d _ _ _ _ => .node a b c (ih d)) t) p

def Pt.len : Pt → Nat
  | .e => 0
  | .d0 p | .d1 p | .d2 p | .d3 p => p.len + 1
theorem digit_len (q : Nat) (p : Pt) : (digit q p).len = p.len + 1 := by
  match q with
  | 0 => rfl
  | 1 => rfl
  | 2 => rfl
  | _ + 3 => rfl
theorem path_len : ∀ (D n : Nat), (path D n).len = D
  | 0, n => rfl
  | D + 1, n => by rw [path_succ, digit_len, path_len D]
theorem digit_inj {q r : Nat} {p s : Pt} (hq : q < 4) (hr : r < 4) (h : digit q p = digit r s) : q = r ∧ p = s := by
  match q, r, hq, hr with
  | 0, 0, _, _ => cases h; exact ⟨rfl, rfl⟩
  | 1, 1, _, _ => cases h; exact ⟨rfl, rfl⟩
  | 2, 2, _, _ => cases h; exact ⟨rfl, rfl⟩
  | 3, 3, _, _ => cases h; exact ⟨rfl, rfl⟩
  | 0, 1, _, _ | 0, 2, _, _ | 0, 3, _, _ | 1, 0, _, _ | 1, 2, _, _ | 1, 3, _, _ | 2, 0, _, _ | 2, 1, _, _ | 2, 3, _, _ | 3, 0, _, _ | 3, 1, _, _ | 3, 2, _, _ => cases h
theorem path_inj : ∀ (D n m : Nat), n < 4 ^ D → m < 4 ^ D → path D n = path D m → n = m
  | 0, n, m, hn, hm, _ => by simp at hn hm; omega
  | D + 1, n, m, hn, hm, h => by
    rw [path_succ, path_succ] at h
    have hp : 0 < 4 ^ D := Nat.pow_pos (by omega)
    have h1 : n / 4 ^ D < 4 := by rw [Nat.div_lt_iff_lt_mul hp]; rw [Nat.pow_succ] at hn; omega
    have h2 : m / 4 ^ D < 4 := by rw [Nat.div_lt_iff_lt_mul hp]; rw [Nat.pow_succ] at hm; omega
    obtain ⟨a, b⟩ := digit_inj h1 h2 h
    have := path_inj D _ _ (Nat.mod_lt _ hp) (Nat.mod_lt _ hp) b
    rw [← Nat.div_add_mod n (4 ^ D), ← Nat.div_add_mod m (4 ^ D), a, this]
theorem getP_setP (x : α) : ∀ (p q : Pt) (t : Qt α), p.len = q.len → (p = q → getP q (setP x p t) = some x) ∧ (p ≠ q → getP q (setP x p t) = getP q t)
  | .e, .e, t, h => ⟨fun _ => rfl, fun h => absurd rfl h⟩
  | .d0 p, .d0 q, t, h => by
    cases t <;> exact ⟨fun e => (getP_setP x p q _ (by simpa [Pt.len] using h)).1 (by cases e; rfl), fun e => (getP_setP x p q _ (by simpa [Pt.len] using h)).2 (fun e' => e (by rw [e'])) |>.trans (by cases q <;> rfl)⟩
  | .d1 p, .d1 q, t, h => by
    cases t <;> exact ⟨fun e => (getP_setP x p q _ (by simpa [Pt.len] using h)).1 (by cases e; rfl), fun e => (getP_setP x p q _ (by simpa [Pt.len] using h)).2 (fun e' => e (by rw [e'])) |>.trans (by cases q <;> rfl)⟩
  | .d2 p, .d2 q, t, h => by
    cases t <;> exact ⟨fun e => (getP_setP x p q _ (by simpa [Pt.len] using h)).1 (by cases e; rfl), fun e => (getP_setP x p q _ (by simpa [Pt.len] using h)).2 (fun e' => e (by rw [e'])) |>.trans (by cases q <;> rfl)⟩
  | .d3 p, .d3 q, t, h => by
    cases t <;> exact ⟨fun e => (getP_setP x p q _ (by simpa [Pt.len] using h)).1 (by cases e; rfl), fun e => (getP_setP x p q _ (by simpa [Pt.len] using h)).2 (fun e' => e (by rw [e'])) |>.trans (by cases q <;> rfl)⟩
  | .e, .d0 q, t, h | .e, .d1 q, t, h | .e, .d2 q, t, h | .e, .d3 q, t, h | .d0 p, .e, t, h | .d1 p, .e, t, h | .d2 p, .e, t, h | .d3 p, .e, t, h => by simp [Pt.len] at h
  | .d0 p, .d1 q, t, h | .d0 p, .d2 q, t, h | .d0 p, .d3 q, t, h | .d1 p, .d0 q, t, h | .d1 p, .d2 q, t, h | .d1 p, .d3 q, t, h | .d2 p, .d0 q, t, h | .d2 p, .d1 q, t, h | .d2 p, .d3 q, t, h | .d3 p, .d0 q, t, h | .d3 p, .d1 q, t, h | .d3 p, .d2 q, t, h => by
    cases t <;> exact ⟨fun e => (by cases e), fun _ => (by cases q <;> rfl)⟩

/-- How many digits a way has. -/
inductive Dp where
  | two
  | four
  | six
  | oth (n : Nat)
def Dp.val : Dp → Nat
  | .two => 2
  | .four => 4
  | .six => 6
  | .oth n => n
noncomputable def Dp.up (D : Dp) : Dp := Dp.rec (motive := fun _ => Dp) .four .six (.oth 8) (fun n => .oth (n + 2)) D
theorem Dp.up_val (D : Dp) : D.up.val = D.val + 2 := by cases D <;> rfl
noncomputable def getN (c D : Nat) (n : Nat) (q : Qt α) : Option α := Bool.rec (motive := fun _ => Option α) none (getP (path D n) q) (Nat.blt n c)
noncomputable def getD (D : Dp) : Nat → Qt α → Option α :=
  Dp.rec (motive := fun _ => Nat → Qt α → Option α) (getN 16 2) (getN 256 4) (getN 4096 6) (fun d => getN (Nat.pow 4 d) d) D

/-- A list by its places, 4 ^ D of them. -/
structure Br (α : Type) where
  D : Dp
  t : Qt α

noncomputable def setN (c D : Nat) (Dd Du : Dp) (n : Nat) (a : α) (q : Qt α) : Br α :=
  Bool.rec (motive := fun _ => Br α) ⟨Du, setP a (path (D + 2) n) (.node (.node q .nil .nil .nil) .nil .nil .nil)⟩ ⟨Dd, setP a (path D n) q⟩ (Nat.blt n c)
noncomputable def setD (D : Dp) : Nat → α → Qt α → Br α :=
  Dp.rec (motive := fun _ => Nat → α → Qt α → Br α) (setN 16 2 .two .four) (setN 256 4 .four .six) (setN 4096 6 .six (.oth 8)) (fun d => setN (Nat.pow 4 d) d (.oth d) (.oth (d + 2))) D

noncomputable def Br.get (t : Br α) (n : Nat) : Option α := Br.rec (motive := fun _ => Option α) (fun D q => getD D n q) t
noncomputable def Br.set (t : Br α) (n : Nat) (a : α) : Br α := Br.rec (motive := fun _ => Br α) (fun D q => setD D n a q) t

theorem Br.get_def (t : Br α) (n : Nat) : t.get n = Bool.rec (motive := fun _ => Option α) none (getP (path t.D.val n) t.t) (Nat.blt n (Nat.pow 4 t.D.val)) := by
  obtain ⟨D, q⟩ := t
  cases D <;> rfl
theorem Br.set_def (t : Br α) (n : Nat) (a : α) : t.set n a =
    Bool.rec (motive := fun _ => Br α) ⟨t.D.up, setP a (path (t.D.val + 2) n) (.node (.node t.t .nil .nil .nil) .nil .nil .nil)⟩ ⟨t.D, setP a (path t.D.val n) t.t⟩ (Nat.blt n (Nat.pow 4 t.D.val)) := by
  obtain ⟨D, q⟩ := t
  cases D <;> rfl

theorem Br.get_in {t : Br α} {n : Nat} (h : n < 4 ^ t.D.val) : t.get n = getP (path t.D.val n) t.t := by
  rw [get_def]
  have : Nat.blt n (Nat.pow 4 t.D.val) = true := Nat.blt_eq.mpr h
  rw [this]
theorem Br.get_out {t : Br α} {n : Nat} (h : ¬ n < 4 ^ t.D.val) : t.get n = none := by
  rw [get_def]
  have : Nat.blt n (Nat.pow 4 t.D.val) = false := by
    cases hb : Nat.blt n (Nat.pow 4 t.D.val) with
    | false => rfl
    | true => exact absurd (Nat.blt_eq.mp hb) h
  rw [this]
theorem path_up (D n : Nat) (h : n < 4 ^ D) : path (D + 1) n = .d0 (path D n) := by
  rw [path_succ, Nat.div_eq_of_lt h, Nat.mod_eq_of_lt h]; rfl

/-- A place that can be written. -/
def Br.way (t : Br α) (n : Nat) : Prop := n < 16 * 4 ^ t.D.val
theorem Br.way_get (t : Br α) (n : Nat) (h : (t.get n).isSome = true) : t.way n := by
  unfold way
  by_cases hn : n < 4 ^ t.D.val
  · omega
  · rw [get_out hn] at h; cases h
theorem Br.get_set (t : Br α) (n k : Nat) (a : α) (h : t.way n) : (t.set n a).get k = if k = n then some a else t.get k := by
  unfold way at h
  obtain ⟨d, hd⟩ : ∃ d, d = t.D.val := ⟨_, rfl⟩
  rw [← hd] at h
  by_cases hn : n < 4 ^ t.D.val
  · have e : t.set n a = ⟨t.D, setP a (path t.D.val n) t.t⟩ := by
      rw [set_def]
      have : Nat.blt n (Nat.pow 4 t.D.val) = true := Nat.blt_eq.mpr hn
      rw [this]
    rw [e]
    by_cases hk : k < 4 ^ t.D.val
    · rw [get_in (t := ⟨t.D, setP a (path t.D.val n) t.t⟩) hk, get_in hk]
      have := getP_setP a (path t.D.val n) (path t.D.val k) t.t (by rw [path_len, path_len])
      by_cases hkn : k = n
      · subst hkn; rw [if_pos rfl]; exact this.1 rfl
      · rw [if_neg hkn]; exact this.2 (fun e => hkn (path_inj _ _ _ hn hk e).symm)
    · rw [get_out (t := ⟨t.D, setP a (path t.D.val n) t.t⟩) hk, get_out hk, if_neg (by omega)]
  · have e : t.set n a = ⟨t.D.up, setP a (path (d + 2) n) (.node (.node t.t .nil .nil .nil) .nil .nil .nil)⟩ := by
      rw [set_def]
      have : Nat.blt n (Nat.pow 4 t.D.val) = false := by
        cases hb : Nat.blt n (Nat.pow 4 t.D.val) with
        | false => rfl
        | true => exact absurd (Nat.blt_eq.mp hb) hn
      rw [this, hd]
    have hp : (4 : Nat) ^ (d + 2) = 16 * 4 ^ d := by rw [Nat.pow_add]; omega
    have hn2 : n < 4 ^ (d + 2) := by rw [hp]; exact h
    rw [e]
    have old : ∀ k, k < 4 ^ (d + 2) → getP (path (d + 2) k) (.node (.node t.t .nil .nil .nil) .nil .nil .nil) = t.get k := by
      intro k hk
      by_cases hk1 : k < 4 ^ d
      · have hk2 : k < 4 ^ (d + 1) := by rw [Nat.pow_succ]; omega
        rw [path_up _ _ hk2, path_up _ _ hk1, get_in (by rw [← hd]; exact hk1), ← hd]
        rfl
      · rw [get_out (by rw [← hd]; exact hk1)]
        have nn : ∀ (p : Pt), getP p (Qt.nil : Qt α) = none := fun p => by cases p <;> rfl
        rw [path_succ]
        rcases Nat.lt_or_ge k (4 ^ (d + 1)) with hk2 | hk2
        · rw [Nat.div_eq_of_lt hk2, Nat.mod_eq_of_lt hk2]
          show getP (path (d + 1) k) (.node t.t .nil .nil .nil) = none
          rw [path_succ]
          have h0 : k / 4 ^ d ≠ 0 := fun h0 => hk1 ((Nat.div_eq_zero_iff.1 h0).resolve_left (by have := Nat.pow_pos (n := d) (show 0 < 4 by omega); omega))
          match hq : k / 4 ^ d, h0 with
          | 1, _ => exact nn _
          | 2, _ => exact nn _
          | _ + 3, _ => exact nn _
        · have h0 : k / 4 ^ (d + 1) ≠ 0 := fun h0 => by
            have := (Nat.div_eq_zero_iff.1 h0).resolve_left (by have := Nat.pow_pos (n := d + 1) (show 0 < 4 by omega); omega)
            omega
          match hq : k / 4 ^ (d + 1), h0 with
          | 1, _ => exact nn _
          | 2, _ => exact nn _
          | _ + 3, _ => exact nn _
    have hu : t.D.up.val = d + 2 := by rw [Dp.up_val, hd]
    by_cases hk : k < 4 ^ (d + 2)
    · rw [get_in (t := ⟨t.D.up, _⟩) (by rw [hu]; exact hk)]
      simp only [hu]
      have := getP_setP a (path (d + 2) n) (path (d + 2) k) (.node (.node t.t .nil .nil .nil) .nil .nil .nil) (by rw [path_len, path_len])
      by_cases hkn : k = n
      · subst hkn; rw [if_pos rfl]; exact this.1 rfl
      · rw [if_neg hkn]
        exact (this.2 (fun e => hkn (path_inj _ _ _ hn2 hk e).symm)).trans (old k hk)
    · rw [get_out (t := ⟨t.D.up, _⟩) (by rw [hu]; exact hk), if_neg (by omega), get_out (by rw [← hd]; rw [hp] at hk; omega)]

/-- Just the places below n are there. -/
def Br.ex (t : Br α) (n : Nat) : Prop := ∀ i, (t.get i).isSome = true ↔ i < n

theorem Br.way_end (t : Br α) (n : Nat) (h : ∀ i, i < n → (t.get i).isSome = true) : t.way n := by
  cases n with
  | zero => unfold way; have := Nat.pow_pos (n := t.D.val) (show 0 < 4 by omega); omega
  | succ n =>
    have := h n (by omega)
    by_cases hn : n < 4 ^ t.D.val
    · unfold way; omega
    · rw [get_out hn] at this; cases this

noncomputable def Br.toL (t : Br α) (n : Nat) : List α := (List.range n).filterMap t.get

theorem Br.ex.toL_get {t : Br α} {n : Nat} (h : t.ex n) : ∀ i, (t.toL n)[i]? = t.get i := by
  have key : ∀ m, m ≤ n → (t.toL m).length = m ∧ ∀ i, (t.toL m)[i]? = if i < m then t.get i else none := by
    intro m
    induction m with
    | zero => intro _; exact ⟨rfl, fun i => by simp [toL]⟩
    | succ m ih =>
      intro hm
      obtain ⟨h1, h2⟩ := ih (by omega)
      obtain ⟨a, ha⟩ := Option.isSome_iff_exists.1 ((h m).2 (by omega))
      have e : t.toL (m + 1) = t.toL m ++ [a] := by simp [toL, List.range_succ, ha]
      refine ⟨by rw [e, List.length_append, h1]; rfl, fun i => ?_⟩
      rw [e]
      by_cases hi : i < m
      · rw [List.getElem?_append_left (by omega), h2, if_pos hi, if_pos (by omega)]
      · rw [List.getElem?_append_right (by omega), h1]
        by_cases hi2 : i = m
        · subst hi2
          rw [Nat.sub_self, if_pos (by omega), ha]; rfl
        · rw [if_neg (by omega)]
          obtain ⟨q, hq⟩ : ∃ q, i - m = q + 1 := ⟨i - m - 1, by omega⟩
          rw [hq]; rfl
  intro i
  rw [(key n (Nat.le_refl _)).2]
  split
  · rfl
  · rename_i hi
    cases hg : t.get i with
    | none => rfl
    | some a => exact absurd ((h i).1 (by rw [hg]; rfl)) hi

theorem Br.ex.len {t : Br α} {n : Nat} (h : t.ex n) : (t.toL n).length = n := by
  apply Nat.le_antisymm
  · unfold toL
    have := List.length_filterMap_le t.get (List.range n)
    simpa using this
  · rcases Nat.lt_or_ge (t.toL n).length n with hlt | hge
    · have h1 := (h _).2 hlt
      rw [← h.toL_get] at h1
      rw [List.getElem?_eq_none (Nat.le_refl _)] at h1
      cases h1
    · exact hge

theorem Br.ex.set {t : Br α} {n i : Nat} (h : t.ex n) (hi : i < n) (a : α) : (t.set i a).ex n ∧ (t.set i a).toL n = (t.toL n).set i a := by
  have hw := t.way_get i ((h i).2 hi)
  have e : (t.set i a).ex n := fun j => by
    rw [get_set _ _ _ _ hw]
    split
    · rename_i hj; subst hj; exact ⟨fun _ => hi, fun _ => rfl⟩
    · exact h j
  refine ⟨e, List.ext_getElem? fun j => ?_⟩
  rw [e.toL_get, get_set _ _ _ _ hw, List.getElem?_set, h.toL_get, h.len]
  by_cases hj : j = i
  · subst hj; rw [if_pos rfl, if_pos rfl, if_pos hi]
  · rw [if_neg hj, if_neg (Ne.symm hj)]

theorem Br.ex.push {t : Br α} {n : Nat} (h : t.ex n) (a : α) : (t.set n a).ex (n + 1) ∧ (t.set n a).toL (n + 1) = t.toL n ++ [a] := by
  have hw := t.way_end n (fun i hi => (h i).2 hi)
  have e : (t.set n a).ex (n + 1) := fun j => by
    rw [get_set _ _ _ _ hw]
    split
    · rename_i hj; subst hj; exact ⟨fun _ => by omega, fun _ => rfl⟩
    · rw [h j]; omega
  refine ⟨e, List.ext_getElem? fun j => ?_⟩
  rw [e.toL_get, get_set _ _ _ _ hw]
  by_cases hj : j < n
  · rw [if_neg (by omega), List.getElem?_append_left (by rw [h.len]; exact hj), h.toL_get]
  · rw [List.getElem?_append_right (by rw [h.len]; omega), h.len]
    by_cases hj2 : j = n
    · subst hj2; rw [if_pos rfl, Nat.sub_self]; rfl
    · rw [if_neg hj2]
      obtain ⟨q, hq⟩ : ∃ q, j - n = q + 1 := ⟨j - n - 1, by omega⟩
      rw [hq]
      cases hg : t.get j with
      | none => rfl
      | some b => exact absurd ((h j).1 (by rw [hg]; rfl)) hj

/-- Several places one behind the other written. -/
noncomputable def Br.put (t : Br α) (i : Nat) (l : List α) : Br α :=
  List.rec (motive := fun _ => Nat → Br α → Br α) (fun _ t => t) (fun a _ ih i t => ih (Nat.succ i) (t.set i a)) l i t
theorem Br.put_nil (t : Br α) (i : Nat) : t.put i [] = t := rfl
theorem Br.put_cons (t : Br α) (i : Nat) (a : α) (l : List α) : t.put i (a :: l) = (t.set i a).put (i + 1) l := rfl

theorem Br.ex.put {n : Nat} : ∀ {l : List α} {t : Br α} {i : Nat}, t.ex n → i + l.length ≤ n → (t.put i l).ex n ∧ (t.put i l).toL n = (t.toL n).take i ++ l ++ (t.toL n).drop (i + l.length)
  | [], t, i, h, hi => ⟨h, by simp [put_nil]⟩
  | a :: l, t, i, h, hi => by
    rw [put_cons]
    simp only [List.length_cons] at hi
    obtain ⟨e1, e2⟩ := h.set (i := i) (by omega) a
    obtain ⟨f1, f2⟩ := Br.ex.put (l := l) (i := i + 1) e1 (by omega)
    refine ⟨f1, ?_⟩
    rw [f2, e2]
    have hl : i < (t.toL n).length := by rw [h.len]; omega
    apply List.ext_getElem?
    intro j
    have L1 : (((t.toL n).set i a).take (i + 1)).length = i + 1 := by simp; omega
    have L2 : ((t.toL n).take i).length = i := by simp; omega
    rw [List.append_assoc, List.append_assoc]
    by_cases h1 : j < i
    · rw [List.getElem?_append_left (by omega), List.getElem?_append_left (by omega), List.getElem?_take, if_pos (by omega), List.getElem?_take, if_pos h1, List.getElem?_set_ne (by omega)]
    · by_cases h2 : j = i
      · subst h2
        rw [List.getElem?_append_left (by omega), List.getElem?_append_right (by omega), L2, Nat.sub_self, List.getElem?_take, if_pos (by omega), List.getElem?_set_self hl]
        rfl
      · obtain ⟨q, hq⟩ : ∃ q, j = i + 1 + q := ⟨j - (i + 1), by omega⟩
        subst hq
        rw [List.getElem?_append_right (l₁ := ((t.toL n).set i a).take (i + 1)) (by rw [L1]; omega), L1, List.getElem?_append_right (l₁ := (t.toL n).take i) (by rw [L2]; omega), L2]
        rw [show i + 1 + q - (i + 1) = q by omega, show i + 1 + q - i = q + 1 by omega, List.cons_append, List.getElem?_cons_succ]
        by_cases h3 : q < l.length
        · rw [List.getElem?_append_left h3, List.getElem?_append_left h3]
        · rw [List.getElem?_append_right (by omega), List.getElem?_append_right (by omega), List.getElem?_drop, List.getElem?_drop, List.getElem?_set_ne (by omega)]
          congr 1
          simp only [List.length_cons]
          omega

theorem Br.ex.puts {l : List α} : ∀ {t : Br α} {n : Nat}, t.ex n → (t.put n l).ex (n + l.length) ∧ (t.put n l).toL (n + l.length) = t.toL n ++ l := by
  induction l with
  | nil => intro t n h; exact ⟨h, by simp [put_nil]⟩
  | cons a l ih =>
    intro t n h
    rw [put_cons]
    obtain ⟨e1, e2⟩ := h.push a
    obtain ⟨f1, f2⟩ := ih e1
    rw [List.length_cons, show n + (l.length + 1) = n + 1 + l.length by omega]
    exact ⟨f1, by rw [f2, e2]; simp⟩

def Br.nil : Br α := ⟨.six, .nil⟩
theorem Br.nil_get (i : Nat) : (Br.nil : Br α).get i = none := by
  by_cases h : i < 4 ^ (Br.nil : Br α).D.val
  · rw [get_in h]
    generalize path (Br.nil : Br α).D.val i = p
    cases p <;> rfl
  · exact get_out h
theorem Br.ex_nil : (Br.nil : Br α).ex 0 := fun i => ⟨fun h => (by rw [nil_get] at h; cases h), fun h => by omega⟩

/-- A list's rest. -/
noncomputable def dropR (l : List α) : Nat → List α :=
  List.rec (motive := fun _ => Nat → List α) (fun _ => []) (fun a r ih n => Nat.rec (motive := fun _ => List α) (a :: r) (fun m _ => ih m) n) l
theorem dropR_eq : ∀ (l : List α) (n : Nat), dropR l n = l.drop n
  | [], n => by cases n <;> rfl
  | a :: r, 0 => rfl
  | a :: r, n + 1 => dropR_eq r n
noncomputable def ofQ (D : Nat) : List α → Qt α :=
  Nat.rec (motive := fun _ => List α → Qt α) (fun l => List.rec (motive := fun _ => Qt α) .nil (fun a _ _ => .leaf a) l)
    (fun D ih l => .node (ih l) (ih (dropR l (Nat.pow 4 D))) (ih (dropR l (Nat.mul 2 (Nat.pow 4 D)))) (ih (dropR l (Nat.mul 3 (Nat.pow 4 D))))) D
theorem ofQ_get : ∀ (D : Nat) (l : List α) (i : Nat), i < 4 ^ D → getP (path D i) (ofQ D l) = l[i]?
  | 0, l, i, h => by
    have : i = 0 := by simp at h; omega
    subst this
    cases l <;> rfl
  | D + 1, l, i, h => by
    have hp : 0 < 4 ^ D := Nat.pow_pos (by omega)
    have hm := Nat.mod_lt i hp
    have hd := Nat.div_add_mod i (4 ^ D)
    rw [path_succ]
    have hq : i / 4 ^ D < 4 := by rw [Nat.div_lt_iff_lt_mul hp]; rw [Nat.pow_succ] at h; omega
    have e : ofQ (D + 1) l = .node (ofQ D l) (ofQ D (dropR l (4 ^ D))) (ofQ D (dropR l (2 * 4 ^ D))) (ofQ D (dropR l (3 * 4 ^ D))) := rfl
    rw [e]
    match hq0 : i / 4 ^ D, hq with
    | 0, _ =>
      rw [hq0] at hd
      show getP (path D (i % 4 ^ D)) (ofQ D l) = _
      rw [ofQ_get D l _ hm]
      congr 1
      omega
    | 1, _ =>
      rw [hq0] at hd
      show getP (path D (i % 4 ^ D)) (ofQ D (dropR l (4 ^ D))) = _
      rw [ofQ_get D _ _ hm, dropR_eq, List.getElem?_drop]
      congr 1
      omega
    | 2, _ =>
      rw [hq0] at hd
      show getP (path D (i % 4 ^ D)) (ofQ D (dropR l (2 * 4 ^ D))) = _
      rw [ofQ_get D _ _ hm, dropR_eq, List.getElem?_drop]
      congr 1
      omega
    | 3, _ =>
      rw [hq0] at hd
      show getP (path D (i % 4 ^ D)) (ofQ D (dropR l (3 * 4 ^ D))) = _
      rw [ofQ_get D _ _ hm, dropR_eq, List.getElem?_drop]
      congr 1
      omega
/-- How deep a tree of so many places is made. -/
noncomputable def deep (n : Nat) : Dp :=
  Bool.rec (motive := fun _ => Dp) (Bool.rec (motive := fun _ => Dp) (Bool.rec (motive := fun _ => Dp) (.oth n) .six (Nat.ble n 4096)) .four (Nat.ble n 256)) .two (Nat.ble n 16)
theorem deep_le (n : Nat) : n ≤ 4 ^ (deep n).val := by
  unfold deep
  cases h1 : Nat.ble n 16 with
  | true => exact Nat.le_of_ble_eq_true h1
  | false =>
    cases h2 : Nat.ble n 256 with
    | true => exact Nat.le_of_ble_eq_true h2
    | false =>
      cases h3 : Nat.ble n 4096 with
      | true => exact Nat.le_of_ble_eq_true h3
      | false =>
        show n ≤ 4 ^ n
        exact Nat.le_of_lt (Nat.lt_pow_self (by omega))
noncomputable def ofLD (l : List α) (D : Dp) : Br α :=
  Dp.rec (motive := fun _ => Br α) ⟨.two, ofQ 2 l⟩ ⟨.four, ofQ 4 l⟩ ⟨.six, ofQ 6 l⟩ (fun n => ⟨.oth n, ofQ n l⟩) D
theorem ofLD_eq (l : List α) (D : Dp) : ofLD l D = ⟨D, ofQ D.val l⟩ := by cases D <;> rfl
noncomputable def Br.ofL (l : List α) : Br α := ofLD l (deep l.length)
theorem Br.ofL_get (l : List α) (i : Nat) : (Br.ofL l).get i = l[i]? := by
  have hd := deep_le l.length
  unfold ofL
  rw [ofLD_eq]
  by_cases h : i < 4 ^ (deep l.length).val
  · rw [get_in (t := ⟨deep l.length, _⟩) h]
    exact ofQ_get _ l i h
  · rw [get_out (t := ⟨deep l.length, _⟩) h, List.getElem?_eq_none]
    omega
theorem Br.ofL_ex (l : List α) : (Br.ofL l).ex l.length ∧ (Br.ofL l).toL l.length = l := by
  have e : (Br.ofL l).ex l.length := fun i => by rw [ofL_get]; simp
  refine ⟨e, List.ext_getElem? fun i => ?_⟩
  rw [e.toL_get]
  exact ofL_get l i

/-- As many places as told, all alike. -/
noncomputable def repQ (x : α) (D : Nat) : Nat → Qt α :=
  Nat.rec (motive := fun _ => Nat → Qt α) (fun n => Nat.rec (motive := fun _ => Qt α) .nil (fun _ _ => .leaf x) n)
    (fun D ih n => .node (ih n) (ih (Nat.sub n (Nat.pow 4 D))) (ih (Nat.sub n (Nat.mul 2 (Nat.pow 4 D)))) (ih (Nat.sub n (Nat.mul 3 (Nat.pow 4 D))))) D
theorem repQ_get (x : α) : ∀ (D n i : Nat), i < 4 ^ D → getP (path D i) (repQ x D n) = if i < n then some x else none
  | 0, n, i, h => by
    have : i = 0 := by simp at h; omega
    subst this
    cases n <;> rfl
  | D + 1, n, i, h => by
    have hp : 0 < 4 ^ D := Nat.pow_pos (by omega)
    have hm := Nat.mod_lt i hp
    have hd := Nat.div_add_mod i (4 ^ D)
    rw [path_succ]
    have hq : i / 4 ^ D < 4 := by rw [Nat.div_lt_iff_lt_mul hp]; rw [Nat.pow_succ] at h; omega
    have e : repQ x (D + 1) n = .node (repQ x D n) (repQ x D (n - 4 ^ D)) (repQ x D (n - 2 * 4 ^ D)) (repQ x D (n - 3 * 4 ^ D)) := rfl
    have fin : ∀ q, q * 4 ^ D + i % 4 ^ D = i → getP (path D (i % 4 ^ D)) (repQ x D (n - q * 4 ^ D)) = if i < n then some x else none := fun q hqi => by
      rw [repQ_get x D _ _ hm]
      by_cases h1 : i < n
      · rw [if_pos (by omega), if_pos h1]
      · rw [if_neg (by omega), if_neg h1]
    rw [e]
    match hq0 : i / 4 ^ D, hq with
    | 0, _ => rw [hq0] at hd; have := fin 0 (by omega); rw [Nat.zero_mul, Nat.sub_zero] at this; exact this
    | 1, _ => rw [hq0] at hd; have := fin 1 (by omega); rw [Nat.one_mul] at this; exact this
    | 2, _ => rw [hq0] at hd; exact fin 2 (by omega)
    | 3, _ => rw [hq0] at hd; exact fin 3 (by omega)
noncomputable def repD (x : α) (n : Nat) (D : Dp) : Br α :=
  Dp.rec (motive := fun _ => Br α) ⟨.two, repQ x 2 n⟩ ⟨.four, repQ x 4 n⟩ ⟨.six, repQ x 6 n⟩ (fun d => ⟨.oth d, repQ x d n⟩) D
theorem repD_eq (x : α) (n : Nat) (D : Dp) : repD x n D = ⟨D, repQ x D.val n⟩ := by cases D <;> rfl
noncomputable def Br.rep (x : α) (n : Nat) : Br α := repD x n (deep n)
theorem Br.rep_get (x : α) (n i : Nat) : (Br.rep x n).get i = if i < n then some x else none := by
  have hd := deep_le n
  unfold rep
  rw [repD_eq]
  by_cases h : i < 4 ^ (deep n).val
  · rw [get_in (t := ⟨deep n, _⟩) h]
    exact repQ_get x _ n i h
  · rw [get_out (t := ⟨deep n, _⟩) h, if_neg]
    omega
theorem Br.rep_ex (x : α) (n : Nat) : (Br.rep x n).ex n ∧ (Br.rep x n).toL n = List.replicate n x := by
  have e : (Br.rep x n).ex n := fun i => by
    rw [rep_get x n i]
    split
    · rename_i h; exact ⟨fun _ => h, fun _ => rfl⟩
    · rename_i h; exact ⟨fun h' => (by cases h'), fun h' => absurd h' h⟩
  refine ⟨e, List.ext_getElem? fun i => ?_⟩
  rw [e.toL_get, rep_get x n i, List.getElem?_replicate]

/-- Places one behind the other, read. -/
noncomputable def Br.seg (t : Br α) (i k : Nat) : List α :=
  Nat.rec (motive := fun _ => Nat → List α) (fun _ => []) (fun _ ih i => Option.rec (motive := fun _ => List α) [] (fun a => a :: ih (Nat.succ i)) (t.get i)) k i
theorem Br.seg_succ (t : Br α) (i k : Nat) : t.seg i (k + 1) = match t.get i with | some a => a :: t.seg (i + 1) k | none => [] := by
  show Option.rec (motive := fun _ => List α) [] (fun a => a :: t.seg (Nat.succ i) k) (t.get i) = _
  cases t.get i <;> rfl
theorem Br.ex.seg {t : Br α} {n : Nat} (h : t.ex n) : ∀ {k i : Nat}, i + k ≤ n → t.seg i k = ((t.toL n).drop i).take k
  | 0, i, _ => by rw [List.take_zero]; rfl
  | k + 1, i, hi => by
    rw [seg_succ]
    obtain ⟨a, ha⟩ := Option.isSome_iff_exists.1 ((h i).2 (by omega))
    rw [ha]
    simp only
    rw [h.seg (k := k) (i := i + 1) (by omega)]
    have e : (t.toL n).drop i = a :: (t.toL n).drop (i + 1) := by
      have hg := h.toL_get i
      rw [ha] at hg
      obtain ⟨hlt, hx⟩ := List.getElem?_eq_some_iff.1 hg
      rw [← hx]
      exact List.drop_eq_getElem_cons hlt
    rw [e, List.take_succ_cons]
end Go.Vi
end
section
set_option autoImplicit false
set_option linter.unusedVariables false
set_option linter.unusedSimpArgs false
namespace Go.Vi

inductive VT where
  | arr (T : TypeId) (sz n : Nat) (t : Br (List AV))
  | big (T : TypeId) (n : Nat) (t : Br AV)
  | frz (sz n : Nat) (t : Br (List AV))
  | map (es : List (Int × AV))
  | iter (m n : Nat) (seen : List Nat)
  | one (T : TypeId) (cs : List AV)
  | dead

noncomputable def VT.den : VT → VO
  | .arr T sz n t => .arr T sz (t.toL n)
  | .big T n t => .arr T n [t.toL n]
  | .frz sz n t => .frz sz (t.toL n)
  | .map es => .map es
  | .iter m n seen => .iter m n seen
  | .one T cs => .one T cs
  | .dead => .dead
def VT.ok : VT → Prop
  | .arr _ _ n t => t.ex n
  | .big _ n t => t.ex n
  | .frz _ n t => t.ex n
  | _ => True

structure HT where
  n : Nat
  t : Br VT

structure HT.ok (h : HT) : Prop where
  ex : h.t.ex h.n
  all : ∀ l o, h.t.get l = some o → o.ok
noncomputable def HT.den (h : HT) : Hp := (h.t.toL h.n).map VT.den
noncomputable def HT.set (h : HT) (l : Nat) (o : VT) : HT := ⟨h.n, h.t.set l o⟩
noncomputable def HT.push (h : HT) (o : VT) : HT := ⟨Nat.succ h.n, h.t.set h.n o⟩
def HT.none : HT := ⟨0, Br.nil⟩

theorem HT.none_ok : HT.none.ok := ⟨Br.ex_nil, fun l o h => by rw [show HT.none.t = Br.nil from rfl, Br.nil_get] at h; cases h⟩
theorem HT.none_den : HT.none.den = [] := rfl

section
variable {h : HT} {l : Nat} {o : VT}
theorem HT.ok.get (k : h.ok) (l : Nat) : h.den[l]? = (h.t.get l).map VT.den := by
  unfold HT.den
  rw [List.getElem?_map, k.ex.toL_get]
theorem HT.ok.at (k : h.ok) (hl : h.t.get l = some o) : h.den[l]? = some o.den ∧ o.ok := ⟨by rw [k.get, hl]; rfl, k.all _ _ hl⟩
theorem HT.ok.len (k : h.ok) : h.den.length = h.n := by unfold HT.den; rw [List.length_map, k.ex.len]
theorem HT.ok.set (k : h.ok) {o' : VT} (hl : h.t.get l = some o') (ho : o.ok) : (h.set l o).ok ∧ (h.set l o).den = h.den.set l o.den := by
  have hlt : l < h.n := (k.ex l).1 (by rw [hl]; rfl)
  obtain ⟨e1, e2⟩ := k.ex.set hlt o
  refine ⟨⟨e1, fun j p hj => ?_⟩, ?_⟩
  · have hj' : (h.t.set l o).get j = some p := hj
    rw [Br.get_set _ _ _ _ (Br.way_get _ _ (by rw [hl]; rfl))] at hj'
    split at hj'
    · cases hj'; exact ho
    · exact k.all _ _ hj'
  · show ((h.t.set l o).toL h.n).map VT.den = _
    rw [e2]
    unfold HT.den
    rw [List.map_set]
theorem HT.ok.push (k : h.ok) (ho : o.ok) : (h.push o).ok ∧ (h.push o).den = h.den ++ [o.den] := by
  obtain ⟨e1, e2⟩ := k.ex.push o
  refine ⟨⟨e1, fun j p hj => ?_⟩, ?_⟩
  · have hj' : (h.t.set h.n o).get j = some p := hj
    rw [Br.get_set _ _ _ _ (Br.way_end _ _ fun i hi => (k.ex i).2 hi)] at hj'
    split at hj'
    · cases hj'; exact ho
    · exact k.all _ _ hj'
  · show ((h.t.set h.n o).toL (h.n + 1)).map VT.den = _
    rw [e2]
    unfold HT.den
    simp
end

/-- Cells laid over a row's. -/
def setCs : List AV → Nat → List AV → List AV
  | [], _, _ => []
  | a :: r, k + 1, cs => a :: setCs r k cs
  | a :: r, 0, [] => a :: r
  | a :: r, 0, c :: cs => c :: setCs r 0 cs
theorem setCs_eq : ∀ (r : List AV) (k : Nat) (cs : List AV), k + cs.length ≤ r.length → setCs r k cs = setC r k cs
  | [], k, cs, h => by
    simp only [List.length_nil, Nat.le_zero_eq, Nat.add_eq_zero_iff, List.length_eq_zero_iff] at h
    obtain ⟨rfl, rfl⟩ := h
    rfl
  | a :: r, k + 1, cs, h => by
    simp only [List.length_cons] at h
    rw [setCs, setCs_eq r k cs (by omega)]
    simp only [setC, List.take_succ_cons, List.cons_append]
    rw [show k + 1 + cs.length = (k + cs.length) + 1 by omega, List.drop_succ_cons]
  | a :: r, 0, [], h => by simp [setCs, setC]
  | a :: r, 0, c :: cs, h => by
    simp only [List.length_cons] at h
    rw [setCs, setCs_eq r 0 cs (by omega)]
    simp [setC]

/-! ### Loads, stores, new variables -/
noncomputable def ldT (P : Program) (t : TypeId) (n : Nat) (cs : Br AV) (k : Nat) : Option AV :=
  match aggOf P t, szOf P t with
  | some true, some m => if k + m ≤ n then some (.agg (cs.seg k m)) else none
  | some false, _ => cs.get k
  | _, _ => none
theorem ldT_eq {P : Program} {t : TypeId} {n k : Nat} {cs : Br AV} {v : AV} (e : cs.ex n) (h : ldT P t n cs k = some v) : ldCells P t ((cs.toL n).drop k) = some v := by
  unfold ldT at h
  unfold ldCells
  split at h
  · rename_i m ha hm
    rw [ha, hm]
    simp only
    split at h
    · rename_i hk
      cases h
      rw [if_pos (by rw [List.length_drop, e.len]; omega), e.seg hk]
    · cases h
  · rename_i ha
    rw [ha]
    simp only
    rw [List.getElem?_drop, e.toL_get]
    exact h
  · cases h

noncomputable def vloadT (P : Program) (h : HT) (t : TypeId) : AV → Option AV
  | .ptr l i k => match h.t.get l with
    | some (.arr _ _ _ rows) => match rows.get i with
      | some r => ldCells P t (r.drop k)
      | none => none
    | some (.frz _ _ rows) => match rows.get i with
      | some r => ldCells P t (r.drop k)
      | none => none
    | some (.big _ n cs) => match i with
      | 0 => ldT P t n cs k
      | _ => none
    | _ => none
  | .iptr _ cs => ldCells P t cs
  | _ => none
theorem vloadT_eq {P : Program} {h : HT} (k : h.ok) {t : TypeId} {p v : AV} (hv : vloadT P h t p = some v) : vload P h.den t p = some v := by
  unfold vloadT at hv
  unfold vload
  split at hv
  · rename_i l i j
    dsimp only
    split at hv
    · rename_i T sz n rows hl
      obtain ⟨g1, g2⟩ := k.at hl
      rw [g1]
      simp only [VT.den]
      rw [g2.toL_get]
      exact hv
    · rename_i sz n rows hl
      obtain ⟨g1, g2⟩ := k.at hl
      rw [g1]
      simp only [VT.den]
      rw [g2.toL_get]
      exact hv
    · rename_i T n cs hl
      obtain ⟨g1, g2⟩ := k.at hl
      rw [g1]
      simp only [VT.den]
      split at hv
      · exact ldT_eq g2 hv
      · cases hv
    · cases hv
  · exact hv
  · cases hv

noncomputable def vstoreT (P : Program) (h : HT) (t : TypeId) (p x : AV) : Option HT :=
  match p with
  | .ptr l i k => match h.t.get l with
    | some (.arr T sz n rows) => match rows.get i, x.cells, szOf P t with
      | some r, some cs, some m => if cs.length = m ∧ k + m ≤ r.length ∧ m ≠ 0 then some (h.set l (.arr T sz n (rows.set i (setCs r k cs)))) else none
      | _, _, _ => none
    | some (.big T n cells) => match x.cells, szOf P t with
      | some cs, some m => if cs.length = m ∧ k + m ≤ n ∧ m ≠ 0 ∧ i = 0 then some (h.set l (.big T n (if m = n then Br.ofL cs else cells.put k cs))) else none
      | _, _ => none
    | _ => none
  | _ => none
theorem vstoreT_eq {P : Program} {h h' : HT} (k : h.ok) {t : TypeId} {p x : AV} (hv : vstoreT P h t p x = some h') : h'.ok ∧ vstore P h.den t p x = some h'.den := by
  unfold vstoreT at hv
  unfold vstore
  split at hv
  · rename_i l i j
    dsimp only
    split at hv
    · rename_i T sz n rows hl
      obtain ⟨g1, g2⟩ := k.at hl
      split at hv
      · rename_i r cs m hr hc hm
        split at hv
        · rename_i hcond
          cases hv
          have hi : i < n := (g2 i).1 (by rw [hr]; rfl)
          obtain ⟨e1, e2⟩ := g2.set hi (setCs r j cs)
          obtain ⟨f1, f2⟩ := k.set (o := .arr T sz n (rows.set i (setCs r j cs))) hl e1
          refine ⟨f1, ?_⟩
          rw [g1]
          simp only [VT.den]
          rw [g2.toL_get, hr, hc, hm]
          simp only
          rw [if_pos hcond, f2]
          simp only [VT.den]
          rw [e2, setCs_eq _ _ _ (by omega)]
        · cases hv
      · cases hv
    · rename_i T n cells hl
      obtain ⟨g1, g2⟩ := k.at hl
      split at hv
      · rename_i cs m hc hm
        split at hv
        · rename_i hcond
          obtain ⟨c1, c2, c3, rfl⟩ := hcond
          cases hv
          have he : (if m = n then Br.ofL cs else cells.put j cs).ex n ∧ (if m = n then Br.ofL cs else cells.put j cs).toL n = (cells.toL n).take j ++ cs ++ (cells.toL n).drop (j + cs.length) := by
            split
            · rename_i hmn
              have hj : j = 0 := by omega
              subst hj
              obtain ⟨q1, q2⟩ := Br.ofL_ex cs
              rw [c1, hmn] at q1 q2
              refine ⟨q1, ?_⟩
              rw [q2, List.take_zero, List.drop_of_length_le (by rw [g2.len]; omega)]
              simp
            · exact g2.put (l := cs) (i := j) (by omega)
          obtain ⟨e1, e2⟩ := he
          obtain ⟨f1, f2⟩ := k.set (o := .big T n (if m = n then Br.ofL cs else cells.put j cs)) hl e1
          refine ⟨f1, ?_⟩
          rw [g1]
          simp only [VT.den, List.getElem?_cons_zero, hc, hm]
          rw [if_pos ⟨c1, by rw [g2.len]; exact c2, c3⟩, f2]
          simp only [VT.den, e2, setC, List.set_cons_zero]
        · cases hv
      · cases hv
    · cases hv
  · cases hv

noncomputable def vboxT (h : HT) (t : TypeId) (x : AV) : Option (AV × HT) :=
  match x.cells with
  | some cs => some (.ptr h.n 0 0, h.push (if cs.length ≤ 40 then .arr t cs.length 1 (Br.ofL [cs]) else .big t cs.length (Br.ofL cs)))
  | none => none
theorem one_ex {α : Type} (a : α) : (Br.ofL [a]).ex 1 ∧ (Br.ofL [a]).toL 1 = [a] := Br.ofL_ex [a]
theorem vboxT_eq {h h' : HT} (k : h.ok) {t : TypeId} {x v : AV} (hv : vboxT h t x = some (v, h')) : h'.ok ∧ vbox h.den t x = some (v, h'.den) := by
  unfold vboxT at hv
  unfold vbox
  split at hv
  · rename_i cs hc
    cases hv
    rw [hc]
    simp only
    split
    · obtain ⟨f1, f2⟩ := k.push (o := .arr t cs.length 1 (Br.ofL [cs])) (one_ex cs).1
      refine ⟨f1, ?_⟩
      rw [f2, k.len]
      simp only [VT.den, (one_ex cs).2]
    · obtain ⟨f1, f2⟩ := k.push (o := .big t cs.length (Br.ofL cs)) (Br.ofL_ex cs).1
      refine ⟨f1, ?_⟩
      rw [f2, k.len]
      simp only [VT.den, (Br.ofL_ex cs).2]
  · cases hv

/-! ### Slices -/
noncomputable def rowsOfT (h : HT) : AV → Option (List (List AV))
  | .nils => some []
  | .list _ rows => some rows
  | .row _ l i n => match h.t.get l with
    | some (.arr _ _ N rows) => if i + n ≤ N then some (rows.seg i n) else none
    | some (.frz _ N rows) => if i + n ≤ N then some (rows.seg i n) else none
    | _ => none
  | .sub l i k es n => match h.t.get l with
    | some (.arr _ _ _ rows) => match rows.get i with
      | some r => if k + n * es ≤ r.length then some (chunk es n (r.drop k)) else none
      | none => none
    | _ => none
  | _ => none
theorem rowsOfT_eq {h : HT} (k : h.ok) {x : AV} {rows : List (List AV)} (hv : rowsOfT h x = some rows) : rowsOf h.den x = some rows := by
  unfold rowsOfT at hv
  unfold rowsOf
  split at hv
  · exact hv
  · exact hv
  · rename_i tt l i n
    dsimp only
    split at hv
    · rename_i T sz N rs hl
      obtain ⟨g1, g2⟩ := k.at hl
      rw [g1]
      simp only [VT.den]
      split at hv
      · rename_i hc
        cases hv
        rw [if_pos (by rw [Br.ex.len g2]; exact hc), g2.seg hc]
      · cases hv
    · rename_i sz N rs hl
      obtain ⟨g1, g2⟩ := k.at hl
      rw [g1]
      simp only [VT.den]
      split at hv
      · rename_i hc
        cases hv
        rw [if_pos (by rw [Br.ex.len g2]; exact hc), g2.seg hc]
      · cases hv
    · cases hv
  · rename_i l i j es n
    dsimp only
    split at hv
    · rename_i T sz N rs hl
      obtain ⟨g1, g2⟩ := k.at hl
      rw [g1]
      simp only [VT.den]
      rw [g2.toL_get]
      exact hv
    · cases hv
  · cases hv
noncomputable def srcRowsT (h : HT) : AV → Option (List (List AV))
  | .str s => some (strRows s)
  | x => rowsOfT h x
theorem srcRowsT_eq {h : HT} (k : h.ok) {x : AV} {rows : List (List AV)} (hv : srcRowsT h x = some rows) : srcRows h.den x = some rows := by
  cases x with
  | row a b c d => exact rowsOfT_eq (x := .row a b c d) k hv
  | sub a b c d e => exact rowsOfT_eq (x := .sub a b c d e) k hv
  | _ => exact hv

noncomputable def objSz (h : HT) (l : Nat) : Option Nat := match h.t.get l with
  | some (.arr _ sz _ _) => some sz
  | some (.frz sz _ _) => some sz
  | some (.big _ n _) => some n
  | _ => none
noncomputable def vindexAddrT (P : Program) (h : HT) (t : TypeId) (x ix : AV) : Option AV :=
  match elemAt P t, ix with
  | some (none, _, sz), .int _ n => match x with
    | .row _ l i m => if 0 ≤ n ∧ n < m then match objSz h l with
        | some sz' => if sz' = sz then some (.ptr l (i + n.toNat) 0) else none
        | none => none
      else none
    | _ => vindexAddr P [] t x ix
  | _, _ => vindexAddr P [] t x ix
theorem vindexAddr_nil {P : Program} {t : TypeId} {x ix v : AV} (H : Hp) (h : vindexAddr P [] t x ix = some v) : vindexAddr P H t x ix = some v := by
  unfold vindexAddr at h ⊢
  split at h
  · split at h
    · exact h
    · split at h
      · simp at h
      · cases h
    · exact h
    · cases h
  · exact h
  · cases h
theorem vindexAddrT_eq {P : Program} {h : HT} (k : h.ok) {t : TypeId} {x ix v : AV} (hv : vindexAddrT P h t x ix = some v) : vindexAddr P h.den t x ix = some v := by
  unfold vindexAddrT at hv
  split at hv
  · rename_i e sz kk n he
    split at hv
    · rename_i tt l i m
      unfold vindexAddr
      rw [he]
      simp only
      split at hv
      · rename_i hn
        rw [if_pos hn]
        unfold objSz at hv
        cases hl : h.t.get l with
        | none => rw [hl] at hv; cases hv
        | some o =>
          rw [hl] at hv
          rw [(k.at hl).1]
          cases o <;> first | exact hv | cases hv
      · cases hv
    · exact vindexAddr_nil _ hv
  · exact vindexAddr_nil _ hv

noncomputable def vlenT (P : Program) (h : HT) (t : TypeId) (x : AV) : Option AV :=
  match x with
  | .mapr l => match P.underlying t with
    | some (.map _ _) => match h.t.get l with
      | some (.map es) => some (.int .i64 es.length)
      | _ => none
    | _ => none
  | _ => vlen P [] t x
theorem vlenT_eq {P : Program} {h : HT} (k : h.ok) {t : TypeId} {x v : AV} (hv : vlenT P h t x = some v) : vlen P h.den t x = some v := by
  unfold vlenT at hv
  split at hv
  · rename_i l
    split at hv
    · rename_i a b hu
      split at hv
      · rename_i es hl
        unfold vlen
        rw [hu]
        simp only
        rw [(k.at hl).1]
        exact hv
      · cases hv
    · cases hv
  · rename_i hm
    unfold vlen at hv ⊢
    split at hv <;> first | exact hv | cases hv

def rowN (hi : Option AV) (sz n i N : Nat) : Nat := if hi.isSome = true ∧ sz ≠ 0 then max n (N - i) else n
noncomputable def vsliceT (P : Program) (h : HT) (t : TypeId) (x : AV) (lo hi mx : Option AV) : Option AV :=
  match x with
  | .row tt l0 i n => match P.underlying t with
    | some (.slice e) => match szOf P e with
      | some sz => match h.t.get l0 with
        | some (.arr _ sz' N _) => match vbounds (rowN hi sz n i N) lo hi mx with
          | some (l, h, mo) => if sz' = sz then some (cutRow tt n (max n (rowN hi sz n i N)) l0 i l h mo) else none
          | none => none
        | some (.frz sz' _ _) => match vbounds n lo hi mx with
          | some (l, h, mo) => if sz' = sz then some (cutRow tt n n l0 i l h mo) else none
          | none => none
        | _ => none
      | none => none
    | _ => none
  | _ => vslice P [] t x lo hi mx
theorem vsliceT_eq {P : Program} {h : HT} (k : h.ok) {t : TypeId} {x v : AV} {lo hi mx : Option AV} (hv : vsliceT P h t x lo hi mx = some v) : vslice P h.den t x lo hi mx = some v := by
  unfold vsliceT at hv
  split at hv
  · rename_i tt l0 i n
    split at hv
    · rename_i e hu
      split at hv
      · rename_i sz hsz
        unfold vslice
        rw [hu]
        simp only
        rw [hsz]
        simp only
        split at hv
        · rename_i T sz' N rows hl
          obtain ⟨g1, g2⟩ := k.at hl
          rw [g1]
          simp only [VT.den]
          have e1 : rowR hi sz n i (rows.toL N) = rowN hi sz n i N := by unfold rowR rowN; rw [Br.ex.len g2]
          rw [e1]
          exact hv
        · rename_i sz' N rows hl
          obtain ⟨g1, g2⟩ := k.at hl
          rw [g1]
          exact hv
        · cases hv
      · cases hv
    · cases hv
  · rename_i hx
    unfold vslice at hv ⊢
    split at hv
    · exact hv
    · split at hv
      · cases hv
      · split at hv <;> first | exact hv | (exact absurd rfl (hx _ _ _ _)) | cases hv
    · split at hv <;> first | exact hv | cases hv
    · cases hv
end Go.Vi
end
section
set_option autoImplicit false
set_option linter.unusedVariables false
set_option linter.unusedSimpArgs false
namespace Go.Vi

noncomputable def newsT (P : Program) (h : HT) (d2 : TypeDesc) (by_ : Nat) (zc : List AV) (x : AV) : Option (List (List AV)) :=
  if isInt d2 = true then match x with
    | .int _ n => if 0 ≤ n ∧ n * (by_ : Int) ≤ 140737488355328 then some (List.replicate n.toNat zc) else none
    | _ => none
  else srcRowsT h x
theorem newsT_eq {P : Program} {h : HT} (k : h.ok) {d2 : TypeDesc} {by_ : Nat} {zc : List AV} {x : AV} {news : List (List AV)} (hv : newsT P h d2 by_ zc x = some news) : newsOf P h.den d2 by_ zc x = some news := by
  unfold newsT at hv
  unfold newsOf
  split at hv
  · rename_i hi; rw [if_pos hi]; exact hv
  · rename_i hi; rw [if_neg hi]; exact srcRowsT_eq k hv

/-- Rows of an object, and more behind them. -/
noncomputable def moreT (i n N : Nat) (rows : Br (List AV)) (news : List (List AV)) : Br (List AV) := if i = 0 ∧ n = N then rows.put n news else Br.ofL (rows.seg i n ++ news)
theorem moreT_eq {i n N : Nat} {rows : Br (List AV)} {news : List (List AV)} (e : rows.ex N) (hi : i + n ≤ N) : (moreT i n N rows news).ex (n + news.length) ∧ (moreT i n N rows news).toL (n + news.length) = ((rows.toL N).drop i).take n ++ news := by
  unfold moreT
  split
  · rename_i hc
    obtain ⟨rfl, rfl⟩ := hc
    obtain ⟨f1, f2⟩ := e.puts (l := news)
    refine ⟨f1, ?_⟩
    rw [f2, List.drop_zero, List.take_of_length_le (by rw [e.len]; omega)]
  · have hl : (rows.seg i n ++ news).length = n + news.length := by
      rw [e.seg hi, List.length_append, List.length_take, List.length_drop, e.len]; omega
    obtain ⟨f1, f2⟩ := Br.ofL_ex (rows.seg i n ++ news)
    rw [hl] at f1 f2
    exact ⟨f1, by rw [f2, e.seg hi]⟩

noncomputable def vappT (P : Program) (h : HT) (t t2 : TypeId) (s x : AV) : Option (AV × HT) :=
  match elemAt P t, P.underlying t2 with
  | some (none, e, sz), some d2 => match zcOf P e, byOf P e with
    | some zc, some by_ => match newsT P h d2 by_ zc x with
      | some news => if (zc.length = sz ∧ sz ≠ 0 ∧ by_ ≠ 0) ∧ lenOk sz news = true ∧ (x.isStr = true → sz = 1) ∧ s.isSlice = true then
        match news.length with
        | 0 => if isInt d2 = true then none else some (s, h)
        | m + 1 => match s with
          | .row false l i n => match h.t.get l with
            | some (.arr T' sz' N rows) => if (T' = e ∧ sz' = sz) ∧ i + n ≤ N then
                (if i + n + (m + 1) ≤ N then some (.row false l i (n + (m + 1)), h.set l (.arr T' sz' N (rows.put (i + n) news)))
                else if (n + (m + 1)) * by_ ≤ 140737488355328 then some (.row false h.n 0 (n + (m + 1)), (h.set l .dead).push (.arr e sz (n + (m + 1)) (moreT i n N rows news))) else none)
              else none
            | _ => none
          | .row true l i n => match h.t.get l with
            | some (.arr T' sz' N rows) => if (sz' = sz ∧ i + n ≤ N) ∧ lenOk sz (rows.seg i n) = true ∧ (n + (m + 1)) * by_ ≤ 140737488355328 then some (.row false h.n 0 (n + (m + 1)), h.push (.arr e sz (n + (m + 1)) (moreT i n N rows news))) else none
            | _ => none
          | .nils => if (m + 1) * by_ ≤ 140737488355328 then some (.row false h.n 0 (m + 1), h.push (.arr e sz (m + 1) (Br.ofL news))) else none
          | .list .tight old => if isInt d2 = false ∧ lenOk sz old = true ∧ (old.length + (m + 1)) * by_ ≤ 140737488355328 then some (.row false h.n 0 (old.length + (m + 1)), h.push (.arr e sz (old.length + (m + 1)) (Br.ofL (old ++ news)))) else none
          | _ => none
        else none
      | none => none
    | _, _ => none
  | _, _ => none

/-- What the list-level append does, its three forms tried one behind the other. -/
def vapp3 (P : Program) (H : Hp) (t t2 : TypeId) (s x : AV) : Option (AV × Hp) :=
  match vappIn P H t t2 s x with
  | some r => some r
  | none => match vappZ P H t t2 s x with
    | some r => some r
    | none => vappendR P H t t2 s x

theorem vappT_eq {P : Program} {h h' : HT} (k : h.ok) {t t2 : TypeId} {s x v : AV} (hv : vappT P h t t2 s x = some (v, h')) : h'.ok ∧ vapp3 P h.den t t2 s x = some (v, h'.den) := by
  unfold vappT at hv
  split at hv
  · rename_i e sz d2 he hu2
    split at hv
    · rename_i zc by_ hzc hby
      split at hv
      · rename_i news hnews
        have hn := newsT_eq k hnews
        split at hv
        · rename_i hc
          obtain ⟨⟨c1, c2, c3⟩, c4, c5, c6⟩ := hc
          split at hv
          · rename_i h0
            split at hv
            · cases hv
            · rename_i hi
              cases hv
              refine ⟨k, ?_⟩
              have e1 : vappIn P h.den t t2 s x = none := by
                unfold vappIn
                split
                · simp only [he, hu2, hzc, hby]
                  split
                  · rename_i zc' by' T'' sz'' rows'' q1 q2 q3
                    cases q1
                    cases q2
                    rw [hn]; simp only; rw [if_neg (fun hx => hx.2.2.2.1 h0)]
                  · rfl
                · rfl
              have e2 : vappZ P h.den t t2 s x = none := by
                unfold vappZ
                simp only [he, hu2, if_neg hi]
              have e3 : vappendR P h.den t t2 s x = some (s, h.den) := by
                unfold newsOf at hn
                rw [if_neg hi] at hn
                unfold vappendR vappendF
                simp only [he, hu2, if_neg hi, hzc, hby, hn]
                rw [if_pos ⟨c1, c2, c3, c4, c5, c6⟩, if_pos h0]
              unfold vapp3
              rw [e1]; simp only; rw [e2]; simp only; exact e3
          · rename_i m hm
            have hne : news.length ≠ 0 := by omega
            -- the forms behind the first
            have back : ∀ {v' : AV} {H' : Hp}, vappIn P h.den t t2 s x = none → (isInt d2 = true → vappZ P h.den t t2 s x = some (v', H')) → (isInt d2 = false → vappendR P h.den t t2 s x = some (v', H')) → vapp3 P h.den t t2 s x = some (v', H') := by
              intro v' H' e1 e2 e3
              unfold vapp3
              rw [e1]
              simp only
              by_cases hi : isInt d2 = true
              · rw [e2 hi]
              · have e4 : vappZ P h.den t t2 s x = none := by
                  unfold vappZ
                  simp only [he, hu2, if_neg hi]
                rw [e4]
                exact e3 (by simpa using hi)
            have srcs : isInt d2 = false → srcRows h.den x = some news := fun hi => by
              unfold newsOf at hn
              rwa [if_neg (by simp [hi])] at hn
            split at hv
            · rename_i l i n
              split at hv
              · rename_i T' sz' N rows hl
                obtain ⟨g1, g2⟩ := k.at hl
                split at hv
                · rename_i hd
                  obtain ⟨⟨rfl, rfl⟩, d2'⟩ := hd
                  split at hv
                  · rename_i hfit
                    cases hv
                    obtain ⟨q1, q2⟩ := Br.ex.put (l := news) (i := i + n) g2 (by omega)
                    obtain ⟨f1, f2⟩ := k.set (o := .arr T' sz' N (rows.put (i + n) news)) hl q1
                    refine ⟨f1, ?_⟩
                    have e1 : vappIn P h.den t t2 (.row false l i n) x = some (.row false l i (n + (m + 1)), (h.set l (.arr T' sz' N (rows.put (i + n) news))).den) := by
                      unfold vappIn
                      simp only [he, hu2, hzc, hby, g1, VT.den, hn]
                      rw [if_pos ⟨⟨c1, c2, c3, c4, c5⟩, by simp, by simp, hne, by rw [Br.ex.len g2]; omega⟩, f2]
                      simp only [VT.den, q2, hm]
                    unfold vapp3
                    rw [e1]
                  · rename_i hfit
                    split at hv
                    · rename_i hby2
                      cases hv
                      obtain ⟨q1, q2⟩ := moreT_eq (news := news) g2 d2'
                      rw [hm] at q1 q2
                      obtain ⟨f1, f2⟩ := k.set (o := .dead) hl trivial
                      obtain ⟨p1, p2⟩ := f1.push (o := .arr T' sz' (n + (m + 1)) (moreT i n N rows news)) q1
                      refine ⟨p1, ?_⟩
                      have hlen : (h.set l .dead).den.length = h.n := f1.len
                      rw [p2, f2]
                      simp only [VT.den, q2]
                      refine back ?_ (fun hi => ?_) (fun hi => ?_)
                      · unfold vappIn
                        simp only [he, hu2, hzc, hby, g1, VT.den, hn]
                        rw [if_neg (fun hx => by have := hx.2.2.2.2; rw [Br.ex.len g2] at this; omega)]
                      · unfold vappZ
                        simp only [he, hu2, hzc, hby, g1, VT.den, hn]
                        rw [if_pos hi, if_pos ⟨⟨c1, c2, c3, c4⟩, hne⟩]
                        rw [if_pos ⟨⟨by simp, by simp⟩, by rw [Br.ex.len g2]; exact d2', by rw [hm]; exact hby2⟩, k.len, hm]
                      · unfold vappendR vappendF
                        simp only [he, hu2, hzc, hby, srcs hi, hi]
                        rw [if_neg (by simp), if_pos ⟨c1, c2, c3, c4, c5, c6⟩, if_neg hne]
                        simp only [g1, VT.den]
                        rw [if_pos ⟨⟨by simp, by simp⟩, by rw [Br.ex.len g2]; exact d2', by rw [hm]; exact hby2⟩, k.len, hm]
                    · cases hv
                · cases hv
              · cases hv
            · rename_i l i n
              split at hv
              · rename_i T' sz' N rows hl
                obtain ⟨g1, g2⟩ := k.at hl
                split at hv
                · rename_i hd
                  obtain ⟨⟨rfl, d2'⟩, d3, d4⟩ := hd
                  cases hv
                  obtain ⟨q1, q2⟩ := moreT_eq (news := news) g2 d2'
                  rw [hm] at q1 q2
                  obtain ⟨p1, p2⟩ := k.push (o := .arr e sz' (n + (m + 1)) (moreT i n N rows news)) q1
                  refine ⟨p1, ?_⟩
                  rw [p2]
                  simp only [VT.den, q2]
                  have hold : rowsOf h.den (.row true l i n) = some (((rows.toL N).drop i).take n) := by
                    simp only [rowsOf, g1, VT.den]
                    rw [if_pos (by rw [Br.ex.len g2]; exact d2')]
                  have hol : (((rows.toL N).drop i).take n).length = n := by rw [List.length_take, List.length_drop, Br.ex.len g2]; omega
                  rw [Br.ex.seg g2 d2'] at d3
                  refine back (by unfold vappIn; rfl) (fun hi => ?_) (fun hi => ?_)
                  · unfold vappZ
                    simp only [he, hu2, hzc, hby, hn]
                    rw [if_pos hi, if_pos ⟨⟨c1, c2, c3, c4⟩, hne⟩]
                    simp only [hold]
                    rw [if_pos ⟨d3, by rw [hol, hm]; exact d4⟩, k.len, hol, hm]
                  · unfold vappendR vappendF
                    simp only [he, hu2, hzc, hby, srcs hi, hi]
                    rw [if_neg (by simp), if_pos ⟨c1, c2, c3, c4, c5, c6⟩, if_neg hne]
                    simp only [hold]
                    rw [if_pos ⟨d3, by rw [hol, hm]; exact d4⟩, k.len, hol, hm]
                · cases hv
              · cases hv
            · split at hv
              · rename_i hb
                cases hv
                obtain ⟨q1, q2⟩ := Br.ofL_ex news
                rw [hm] at q1 q2
                obtain ⟨p1, p2⟩ := k.push (o := .arr e sz (m + 1) (Br.ofL news)) q1
                refine ⟨p1, ?_⟩
                rw [p2]
                simp only [VT.den, q2]
                refine back (by unfold vappIn; rfl) (fun hi => ?_) (fun hi => ?_)
                · unfold vappZ
                  simp only [he, hu2, hzc, hby, hn]
                  rw [if_pos hi, if_pos ⟨⟨c1, c2, c3, c4⟩, hne⟩]
                  simp only [List.length_nil, Nat.zero_add, List.nil_append]
                  rw [if_pos ⟨rfl, by rw [hm]; exact hb⟩, k.len, hm]
                · unfold vappendR vappendF
                  simp only [he, hu2, hzc, hby, srcs hi, hi]
                  rw [if_neg (by simp), if_pos ⟨c1, c2, c3, c4, c5, c6⟩, if_neg hne]
                  rw [if_pos (by rw [hm]; exact hb), k.len, hm]
              · cases hv
            · rename_i old
              split at hv
              · rename_i hb
                obtain ⟨b1, b2, b3⟩ := hb
                cases hv
                obtain ⟨q1, q2⟩ := Br.ofL_ex (old ++ news)
                rw [List.length_append, hm] at q1 q2
                obtain ⟨p1, p2⟩ := k.push (o := .arr e sz (old.length + (m + 1)) (Br.ofL (old ++ news))) q1
                refine ⟨p1, ?_⟩
                rw [p2]
                simp only [VT.den, q2]
                refine back (by unfold vappIn; rfl) (fun hi => by rw [b1] at hi; cases hi) (fun hi => ?_)
                unfold vappendR vappendF
                simp only [he, hu2, hzc, hby, srcs hi, hi]
                rw [if_neg (by simp), if_pos ⟨c1, c2, c3, c4, c5, c6⟩, if_neg hne]
                rw [if_pos ⟨b2, by rw [hm]; exact b3⟩, k.len, hm]
              · cases hv
            · cases hv
        · cases hv
      · cases hv
    · cases hv
  · cases hv
end Go.Vi
end
section
set_option autoImplicit false
set_option linter.unusedVariables false
set_option linter.unusedSimpArgs false
namespace Go.Vi

noncomputable def vcopyT (P : Program) (h : HT) (t : TypeId) (d x : AV) : Option (AV × HT) :=
  match elemAt P t, srcRowsT h x with
  | some (none, e, sz), some rows => if lenOk sz rows = true ∧ sz ≠ 0 ∧ (x.isStr = true → sz = 1) then match d with
      | .nils => some (.int .i64 0, h)
      | .row _ l i n => match h.t.get l with
        | some (.arr T sz' N rows0) => if sz' = sz ∧ i + n ≤ N then
            some (.int .i64 (min rows.length n : Nat), h.set l (.arr T sz N (rows0.put i (rows.take (min rows.length n))))) else none
        | _ => none
      | _ => none
    else none
  | _, _ => none
theorem vcopyT_eq {P : Program} {h h' : HT} (k : h.ok) {t : TypeId} {d x v : AV} (hv : vcopyT P h t d x = some (v, h')) : h'.ok ∧ vcopy P h.den t d x = some (v, h'.den) := by
  unfold vcopyT at hv
  split at hv
  · rename_i e sz rows he hs
    have hs' := srcRowsT_eq k hs
    split at hv
    · rename_i hc
      split at hv
      · cases hv
        refine ⟨k, ?_⟩
        unfold vcopy
        simp only [he, hs']
        rw [if_pos hc]
      · rename_i tt l i n
        split at hv
        · rename_i T sz' N rows0 hl
          obtain ⟨g1, g2⟩ := k.at hl
          split at hv
          · rename_i hd
            obtain ⟨rfl, d2⟩ := hd
            cases hv
            have hlen : (rows.take (min rows.length n)).length = min rows.length n := by rw [List.length_take]; omega
            obtain ⟨q1, q2⟩ := Br.ex.put (l := rows.take (min rows.length n)) (i := i) g2 (by rw [hlen]; omega)
            obtain ⟨f1, f2⟩ := k.set (o := .arr T sz' N (rows0.put i (rows.take (min rows.length n)))) hl q1
            refine ⟨f1, ?_⟩
            unfold vcopy
            simp only [he, hs']
            rw [if_pos hc]
            simp only [g1, VT.den]
            rw [if_pos ⟨by simp, by rw [Br.ex.len g2]; exact d2⟩, f2]
            simp only [VT.den, q2, hlen]
          · cases hv
        · cases hv
      · cases hv
    · cases hv
  · cases hv

noncomputable def vclearT (P : Program) (h : HT) (t : TypeId) (x : AV) : Option HT :=
  match x with
  | .nils => some h
  | .list _ [] => some h
  | .row _ l i n => match P.underlying t with
    | some (.slice e) => match szOf P e, zcOf P e, h.t.get l with
      | some sz, some zc, some (.arr T sz' N rows) => if zc.length = sz ∧ sz ≠ 0 ∧ sz' = sz ∧ i + n ≤ N then
          (if n = 0 then some h else some (h.set l (.arr T sz' N (rows.put i (List.replicate n zc))))) else none
      | _, _, _ => none
    | _ => none
  | _ => none
theorem vclearT_eq {P : Program} {h h' : HT} (k : h.ok) {t : TypeId} {x : AV} (hv : vclearT P h t x = some h') : h'.ok ∧ vclear P h.den t x = some h'.den := by
  unfold vclearT at hv
  split at hv
  · cases hv; exact ⟨k, rfl⟩
  · cases hv; exact ⟨k, rfl⟩
  · rename_i tt l i n
    split at hv
    · rename_i e hu
      split at hv
      · rename_i sz zc T sz' N rows hsz hzc hl
        obtain ⟨g1, g2⟩ := k.at hl
        unfold vclear
        simp only [hu, hsz, hzc, g1, VT.den]
        split at hv
        · rename_i hc
          rw [if_pos (by rw [Br.ex.len g2]; exact hc)]
          split at hv
          · rename_i h0
            cases hv
            exact ⟨k, by rw [if_pos h0]⟩
          · rename_i h0
            cases hv
            obtain ⟨q1, q2⟩ := Br.ex.put (l := List.replicate n zc) (i := i) g2 (by rw [List.length_replicate]; exact hc.2.2.2)
            obtain ⟨f1, f2⟩ := k.set (o := .arr T sz' N (rows.put i (List.replicate n zc))) hl q1
            refine ⟨f1, ?_⟩
            rw [if_neg h0, f2]
            simp only [VT.den, q2, List.length_replicate]
        · cases hv
      · cases hv
    · cases hv
  · cases hv

noncomputable def vmakeT (P : Program) (h : HT) (t : TypeId) (ln cp : AV) : Option (AV × HT) :=
  match elemAt P t, ln, cp with
  | some (none, e, sz), .int _ n, .int _ m => match zcOf P e, byOf P e with
    | some zc, some by_ => if zc.length = sz ∧ sz ≠ 0 ∧ by_ ≠ 0 ∧ 0 ≤ n ∧ n ≤ m ∧ m * (by_ : Int) ≤ 140737488355328 then
        some (.row (n == m) h.n 0 n.toNat, h.push (.arr e sz n.toNat (Br.rep zc n.toNat))) else none
    | _, _ => none
  | _, _, _ => none
theorem vmakeT_eq {P : Program} {h h' : HT} (k : h.ok) {t : TypeId} {x y v : AV} (hv : vmakeT P h t x y = some (v, h')) : h'.ok ∧ vmake P h.den t x y = some (v, h'.den) := by
  unfold vmakeT at hv
  split at hv
  · rename_i e sz k1 n k2 m he
    split at hv
    · rename_i zc by_ hzc hby
      split at hv
      · rename_i hc
        cases hv
        obtain ⟨q1, q2⟩ := Br.rep_ex zc n.toNat
        obtain ⟨p1, p2⟩ := k.push (o := .arr e sz n.toNat (Br.rep zc n.toNat)) q1
        refine ⟨p1, ?_⟩
        unfold vmake
        simp only [he, hzc, hby]
        rw [if_pos hc, p2, k.len]
        simp only [VT.den, q2]
      · cases hv
    · cases hv
  · cases hv

noncomputable def vbuildSliceT (P : Program) (h : HT) (t : TypeId) (len : Nat) (ps : List (Nat × AV)) : Option (AV × HT) :=
  match elemAt P t with
  | some (none, e, sz) => match zcOf P e with
    | some zc => if zc.length = sz ∧ sz ≠ 0 ∧ len * sz ≤ 2 ^ 24 then match vfillRows sz (List.replicate len zc) ps with
        | some rows => if rows.length = len then some (.row true h.n 0 len, h.push (.arr e sz len (Br.ofL rows))) else none
        | none => none
      else none
    | none => none
  | _ => none
theorem vbuildSliceT_eq {P : Program} {h h' : HT} (k : h.ok) {t : TypeId} {len : Nat} {ps : List (Nat × AV)} {v : AV} (hv : vbuildSliceT P h t len ps = some (v, h')) : h'.ok ∧ vbuildSlice P h.den t len ps = some (v, h'.den) := by
  unfold vbuildSliceT at hv
  split at hv
  · rename_i e sz he
    split at hv
    · rename_i zc hzc
      split at hv
      · rename_i hc
        split at hv
        · rename_i rows hf
          split at hv
          · rename_i hl
            cases hv
            obtain ⟨q1, q2⟩ := Br.ofL_ex rows
            rw [hl] at q1 q2
            obtain ⟨p1, p2⟩ := k.push (o := .arr e sz len (Br.ofL rows)) q1
            refine ⟨p1, ?_⟩
            unfold vbuildSlice
            simp only [he, hzc]
            rw [if_pos hc]
            simp only [hf]
            rw [p2, k.len]
            simp only [VT.den, q2]
          · cases hv
        · cases hv
      · cases hv
    · cases hv
  · cases hv

noncomputable def vconvT (P : Program) (h : HT) (src dst : TypeId) (x : AV) : Option AV :=
  match x with
  | .row .. | .sub .. => match P.underlying src, P.underlying dst with
    | some (.slice e), some .string => match P.underlying e, rowsOfT h x with
      | some (.int .u8), some rows => (numsOf rows).map fun xs => .str (strOfNums xs)
      | _, _ => none
    | _, _ => none
  | _ => vconv P [] src dst x
theorem vconv_nil {P : Program} {src dst : TypeId} {x v : AV} (H : Hp) (hx : (∀ t l i n, x ≠ .row t l i n) ∧ ∀ l i k e n, x ≠ .sub l i k e n) (h : vconv P [] src dst x = some v) : vconv P H src dst x = some v := by
  unfold vconv at h ⊢
  have hr : ∀ y, rowsOf [] x = some y → rowsOf H x = some y := fun y hy => by
    unfold rowsOf at hy ⊢
    split at hy
    · exact hy
    · exact hy
    · exact absurd rfl (hx.1 _ _ _ _)
    · exact absurd rfl (hx.2 _ _ _ _ _)
    · cases hy
  split at h
  · split at h
    · rename_i h1 h2
      rw [h1, hr _ h2]
      exact h
    · cases h
  · exact h
  · exact h
theorem vconvT_eq {P : Program} {h : HT} (k : h.ok) {src dst : TypeId} {x v : AV} (hv : vconvT P h src dst x = some v) : vconv P h.den src dst x = some v := by
  have key : (match P.underlying src, P.underlying dst with
    | some (.slice e), some .string => match P.underlying e, rowsOfT h x with
      | some (.int .u8), some rows => (numsOf rows).map fun xs => AV.str (strOfNums xs)
      | _, _ => none
    | _, _ => none) = some v → vconv P h.den src dst x = some v := fun hv => by
    split at hv
    · rename_i e h1 h2
      split at hv
      · rename_i rows h3 h4
        unfold vconv
        rw [h1, h2]
        simp only [h3, rowsOfT_eq k h4]
        exact hv
      · cases hv
    · cases hv
  unfold vconvT at hv
  split at hv
  · exact key hv
  · exact key hv
  · rename_i h1 h2
    exact vconv_nil _ ⟨fun t l i n e => h1 _ _ _ _ e, fun l i kk e n ee => h2 _ _ _ _ _ ee⟩ hv

noncomputable def vconvSameT (P : Program) (h : HT) (src dst : TypeId) (x : AV) : Option (AV × HT) :=
  match P.underlying dst, x with
  | some (.slice e), .row t l i n => match P.underlying e, h.t.get l with
    | some (.int .u8), some (.arr T sz N rows) => if src = dst ∧ allVal (rows.seg 0 N) = true then some (.row t l i n, h.set l (.frz sz N rows)) else none
    | _, _ => none
  | _, _ => none
theorem vconvSameT_eq {P : Program} {h h' : HT} (k : h.ok) {src dst : TypeId} {x v : AV} (hv : vconvSameT P h src dst x = some (v, h')) : h'.ok ∧ vconvSame P h.den src dst x = some (v, h'.den) := by
  unfold vconvSameT at hv
  split at hv
  · rename_i e t l i n hu
    split at hv
    · rename_i T sz N rows he hl
      obtain ⟨g1, g2⟩ := k.at hl
      split at hv
      · rename_i hc
        cases hv
        obtain ⟨f1, f2⟩ := k.set (o := .frz sz N rows) hl g2
        refine ⟨f1, ?_⟩
        unfold vconvSame
        simp only [hu, he, g1, VT.den]
        have h0 : rows.seg 0 N = rows.toL N := by rw [Br.ex.seg g2 (by omega), List.drop_zero, List.take_of_length_le (by rw [Br.ex.len g2]; omega)]
        rw [h0] at hc
        rw [if_pos hc, f2]
        rfl
      · cases hv
    · cases hv
  · cases hv

/-! ### Maps -/
noncomputable def mapAt (h : HT) (l : Nat) : Option (List (Int × AV)) := match h.t.get l with
  | some (.map es) => some es
  | _ => none
theorem mapAt_eq {h : HT} (k : h.ok) {l : Nat} {es : List (Int × AV)} (hv : mapAt h l = some es) : h.t.get l = some (.map es) ∧ h.den[l]? = some (.map es) := by
  unfold mapAt at hv
  split at hv
  · rename_i es' hl
    cases hv
    exact ⟨hl, (k.at hl).1⟩
  · cases hv
noncomputable def vlookupT (P : Program) (h : HT) (t : TypeId) (x k : AV) (ok : Bool) : Option AV :=
  match intMap P t, x, k with
  | some et, .mapr l, .int .i64 n => match mapAt h l with
    | some es => match mfind n es 0 with
      | some (_, v) => some (if ok = true then .tup [v, .bool true] else v)
      | none => (zrOf P et).map fun v => if ok = true then .tup [v, .bool false] else v
    | none => none
  | _, _, _ => none
theorem vlookupT_eq {P : Program} {h : HT} (k : h.ok) {t : TypeId} {x y v : AV} {b : Bool} (hv : vlookupT P h t x y b = some v) : vlookup P h.den t x y b = some v := by
  unfold vlookupT at hv
  split at hv
  · rename_i et l n he
    split at hv
    · rename_i es hm
      unfold vlookup
      simp only [he, (mapAt_eq k hm).2]
      exact hv
    · cases hv
  · cases hv
noncomputable def vmapUpdateT (P : Program) (h : HT) (t : TypeId) (x k v : AV) : Option HT :=
  match intMap P t, x, k with
  | some _, .mapr l, .int .i64 n => match mapAt h l with
    | some es => some (h.set l (.map (mset n v es)))
    | none => none
  | _, _, _ => none
theorem vmapUpdateT_eq {P : Program} {h h' : HT} (k : h.ok) {t : TypeId} {x y v : AV} (hv : vmapUpdateT P h t x y v = some h') : h'.ok ∧ vmapUpdate P h.den t x y v = some h'.den := by
  unfold vmapUpdateT at hv
  split at hv
  · rename_i et l n he
    split at hv
    · rename_i es hm
      cases hv
      obtain ⟨m1, m2⟩ := mapAt_eq k hm
      obtain ⟨f1, f2⟩ := k.set (o := .map (mset n v es)) m1 trivial
      refine ⟨f1, ?_⟩
      unfold vmapUpdate
      simp only [he, m2]
      rw [f2]
      rfl
    · cases hv
  · cases hv
noncomputable def vrangeT (P : Program) (h : HT) (t : TypeId) (x : AV) : Option (AV × HT) :=
  match intMap P t, x with
  | some _, .mapr l => match mapAt h l with
    | some es => some (.ptr h.n 0 0, h.push (.iter l es.length []))
    | none => none
  | _, _ => none
theorem vrangeT_eq {P : Program} {h h' : HT} (k : h.ok) {t : TypeId} {x v : AV} (hv : vrangeT P h t x = some (v, h')) : h'.ok ∧ vrange P h.den t x = some (v, h'.den) := by
  unfold vrangeT at hv
  split at hv
  · rename_i et l he
    split at hv
    · rename_i es hm
      cases hv
      obtain ⟨m1, m2⟩ := mapAt_eq k hm
      obtain ⟨f1, f2⟩ := k.push (o := .iter l es.length []) trivial
      refine ⟨f1, ?_⟩
      unfold vrange
      simp only [he, m2]
      rw [f2, k.len]
      rfl
    · cases hv
  · cases hv
noncomputable def iterAt (h : HT) (l : Nat) : Option (Nat × Nat × List Nat) := match h.t.get l with
  | some (.iter m n seen) => some (m, n, seen)
  | _ => none
theorem iterAt_eq {h : HT} (k : h.ok) {l m n : Nat} {seen : List Nat} (hv : iterAt h l = some (m, n, seen)) : h.t.get l = some (.iter m n seen) ∧ h.den[l]? = some (.iter m n seen) := by
  unfold iterAt at hv
  split at hv
  · rename_i m' n' s' hl
    cases hv
    exact ⟨hl, (k.at hl).1⟩
  · cases hv
noncomputable def ventryT (h : HT) (x : AV) : Option AV :=
  match x with
  | .ptr li 0 0 => match iterAt h li with
    | some (l, n, seen) => match seen.getLast?, mapAt h l with
      | some j, some es => if es.length = n then (es[j]?).map fun e => .tup [.int .i64 e.1, e.2] else none
      | _, _ => none
    | none => none
  | _ => none
theorem ventryT_eq {h : HT} (k : h.ok) {x v : AV} (hv : ventryT h x = some v) : ventry h.den x = some v := by
  unfold ventryT at hv
  split at hv
  · rename_i li
    split at hv
    · rename_i l n seen hi
      split at hv
      · rename_i j es hj hm
        unfold ventry
        simp only [(iterAt_eq k hi).2, hj, (mapAt_eq k hm).2]
        exact hv
      · cases hv
    · cases hv
  · cases hv
noncomputable def fnext (h : HT) (x : AV) : Option (AV × HT) :=
  match x with
  | .ptr li 0 0 => match iterAt h li with
    | some (l, n, seen) => match mapAt h l with
      | some es => if es.length = n then match (List.range n).filter (fun j => !seen.contains j) with
          | [] => some (.tup [.bool false], h)
          | [j] => match es[j]? with
            | some e => some (.tup [.bool true, .int .i64 e.1, e.2], h.set li (.iter l n (seen ++ [j])))
            | none => none
          | _ => none
        else none
      | none => none
    | none => none
  | _ => none
theorem fnext_eq {h h' : HT} (k : h.ok) {x v : AV} (hv : fnext h x = some (v, h')) : h'.ok ∧ enext h.den x = some (v, h'.den) := by
  unfold fnext at hv
  split at hv
  · rename_i li
    split at hv
    · rename_i l n seen hi
      obtain ⟨i1, i2⟩ := iterAt_eq k hi
      split at hv
      · rename_i es hm
        unfold enext
        simp only [i2, (mapAt_eq k hm).2]
        split at hv
        · rename_i hn
          rw [if_pos hn]
          split at hv
          · rename_i hf
            cases hv
            rw [hf]
            exact ⟨k, rfl⟩
          · rename_i j hf
            split at hv
            · rename_i e he
              cases hv
              obtain ⟨f1, f2⟩ := k.set (o := .iter l n (seen ++ [j])) i1 trivial
              rw [hf]
              simp only [he]
              exact ⟨f1, by rw [f2]; rfl⟩
            · cases hv
          · cases hv
        · cases hv
      · cases hv
    · cases hv
  · cases hv
end Go.Vi
end
section
set_option autoImplicit false
set_option linter.unusedVariables false
set_option linter.unusedSimpArgs false
namespace Go.Vi

/-- All calls and appends on this side's objects. -/
def mdA (o : Oper) : Md := .shr

noncomputable def fexec (P : Program) (e : Operand → Option AV) (h : HT) (o : Oper) : Option (AV × HT) :=
  match o.op with
  | .move x | .assign x => (e x).map (·, h)
  | .alloc t => (zrOf P t).bind (vboxT h t)
  | .box t x => (e x).bind (vboxT h t)
  | .buildSlice t len parts => match evP e parts.toList with
    | some ps => vbuildSliceT P h t len ps
    | none => none
  | .load t a => match e a with
    | some p => (vloadT P h t p).map (·, h)
    | none => none
  | .store t a x => match e a, e x with
    | some p, some v => (vstoreT P h t p v).map (.tup [], ·)
    | _, _ => none
  | .convert a b x => match e x with
    | some v => match vconvT P h a b v with
      | some r => some (r, h)
      | none => if a = b then vconvSameT P h a b v else none
    | none => none
  | .makeSlice t l c => match e l, e c with
    | some a, some b => vmakeT P h t a b
    | _, _ => none
  | .slice t x lo hi mx => match e x, evO e lo, evO e hi, evO e mx with
    | some v, some l, some hh, some m => (vsliceT P h t v l hh m).map (·, h)
    | _, _, _, _ => none
  | .indexAddr t x ix => match e x, e ix with
    | some v, some i => (vindexAddrT P h t v i).map (·, h)
    | _, _ => none
  | .makeMap _ r => if r.isNone = true then some (.mapr h.n, h.push (.map [])) else none
  | .lookup t x k ok => match e x, e k with
    | some a, some b => (vlookupT P h t a b ok).map (·, h)
    | _, _ => none
  | .mapUpdate t m k x => match e m, e k, e x with
    | some a, some b, some v => (vmapUpdateT P h t a b v).map (.tup [], ·)
    | _, _, _ => none
  | .range t x => match e x with
    | some a => vrangeT P h t a
    | none => none
  | .entry x => match e x with
    | some a => (ventryT h a).map (·, h)
    | none => none
  | .call { callee := .builtin b, args, argTypes } => match evL e args.toList, argTypes.toList with
    | some [x], [t] => match b with
      | .len => (vlenT P h t x).map (·, h)
      | .clear => if (P.underlying t).isSome = true then (vclearT P h t x).map (.tup [], ·) else none
      | .cap => (vcap P t x).map (·, h)
      | _ => none
    | some [x, y], [t, t2] => match b with
      | .append => vappT P h t t2 x y
      | .copy => vcopyT P h t x y
      | .max => (vmax2 true x y).map (·, h)
      | .min => (vmax2 false x y).map (·, h)
      | _ => none
    | _, _ => none
  | .pick .. | .build .. | .nilCheck .. | .binOp .. | .unOp .. | .fieldAddr .. | .field .. | .index .. | .extract .. | .makeFunc .. | .makeInterface .. => (vexec P e [] o).map fun p => (p.1, h)
  | _ => none

theorem mdA_shf (o : Oper) : ¬ mdA o = .shf := fun h => by cases h
theorem mdA_iso (o : Oper) : ¬ mdA o = .iso := fun h => by cases h
theorem mdA_shr (o : Oper) : mdA o = .shr := rfl
theorem map_pair {α β γ : Type} {x : Option α} {f : α → β × γ} {v : β} {z : γ} (h : x.map f = some (v, z)) : ∃ a, x = some a ∧ f a = (v, z) := by
  cases x with
  | none => cases h
  | some a => exact ⟨a, rfl, by simpa using h⟩

theorem fexec_eq {P : Program} {e : Operand → Option AV} {h h' : HT} (k : h.ok) {o : Oper} {v : AV} (hv : fexec P e h o = some (v, h')) : h'.ok ∧ vexec2 P mdA e h.den o = some (v, h'.den) := by
  obtain ⟨dst, op, type, pos, after, guard⟩ := o
  have dflt : ∀ (z : Option AV) (w : AV), (z.map (·, ([] : Hp))).map (fun p => (p.1, h)) = some (w, h') → h'.ok ∧ z.map (·, h.den) = some (w, h'.den) := fun z w hz => by
    cases z with
    | none => cases hz
    | some a => simp only [Option.map_some, Option.some.injEq, Prod.mk.injEq] at hz; obtain ⟨rfl, rfl⟩ := hz; exact ⟨k, rfl⟩
  have same : ∀ (z : Option AV) (w : AV), z.map (·, h) = some (w, h') → h'.ok ∧ z = some w ∧ h' = h := fun z w hz => by
    cases z with
    | none => cases hz
    | some a => simp only [Option.map_some, Option.some.injEq, Prod.mk.injEq] at hz; obtain ⟨rfl, rfl⟩ := hz; exact ⟨k, rfl, rfl⟩
  cases op with
  | move x | assign x =>
    simp only [fexec] at hv
    obtain ⟨a, b, rfl⟩ := same _ _ hv
    refine ⟨a, ?_⟩
    simp only [vexec2, vexec, b]
    rfl
  | alloc t =>
    simp only [fexec] at hv
    obtain ⟨z, h1, h2⟩ := Option.bind_eq_some_iff.1 hv
    obtain ⟨a, b⟩ := vboxT_eq k h2
    refine ⟨a, ?_⟩
    simp only [vexec2]
    rw [if_neg (mdA_shf _)]
    unfold valloc
    rw [h1]
    exact b
  | box t x =>
    simp only [fexec] at hv
    obtain ⟨z, h1, h2⟩ := Option.bind_eq_some_iff.1 hv
    obtain ⟨a, b⟩ := vboxT_eq k h2
    refine ⟨a, ?_⟩
    simp only [vexec2, vexec, h1]
    exact b
  | buildSlice t len parts =>
    simp only [fexec] at hv
    split at hv
    · rename_i ps hp
      obtain ⟨a, b⟩ := vbuildSliceT_eq k hv
      refine ⟨a, ?_⟩
      simp only [vexec2, hp]
      rw [if_neg (mdA_iso _)]
      exact b
    · cases hv
  | load t x =>
    simp only [fexec] at hv
    split at hv
    · rename_i p hp
      obtain ⟨a, b, rfl⟩ := same _ _ hv
      refine ⟨a, ?_⟩
      simp only [vexec2, vexec, hp, vloadT_eq k b]
      rfl
    · cases hv
  | store t x y =>
    simp only [fexec] at hv
    split at hv
    · rename_i p q hp hq
      obtain ⟨h2, h3, h4⟩ := map_pair hv
      cases h4
      obtain ⟨a, b⟩ := vstoreT_eq k h3
      refine ⟨a, ?_⟩
      simp only [vexec2, vexec, hp, hq, b]
      rfl
    · cases hv
  | convert a b x =>
    simp only [fexec] at hv
    split at hv
    · rename_i y hy
      split at hv
      · rename_i r hr
        cases hv
        have he := vconvT_eq k hr
        have hx : vexec P e h.den { dst := dst, op := .convert a b x, type := type, pos := pos, after := after, guard := guard } = some (v, h.den) := by
          simp only [vexec, hy, he, orX]
          rfl
        refine ⟨k, ?_⟩
        simp only [vexec2]
        split
        · rw [hx]
        · exact hx
      · rename_i hr
        split at hv
        · rename_i hab
          obtain ⟨q1, q2⟩ := vconvSameT_eq k hv
          refine ⟨q1, ?_⟩
          have hx : vexec P e h.den { dst := dst, op := .convert a b x, type := type, pos := pos, after := after, guard := guard } = none := by
            subst hab
            unfold vconvSameT at hv
            split at hv
            · rename_i ee t l i n hu
              have hu2 : P.underlying a = some (.slice ee) := hu
              simp only [vexec, hy]
              have h1 : vconv P h.den a a (.row t l i n) = none := by
                unfold vconv
                simp only [hu2]
                unfold vconvInt
                simp only [hu2]
              have h2 : vconvX P h.den a a (.row t l i n) = none := rfl
              rw [h1, h2]
              rfl
            · cases hv
          simp only [vexec2]
          rw [if_pos hab, hx]
          simp only [hy]
          exact q2
        · cases hv
    · cases hv
  | makeSlice t l c =>
    simp only [fexec] at hv
    split at hv
    · rename_i p q hp hq
      obtain ⟨a, b⟩ := vmakeT_eq k hv
      refine ⟨a, ?_⟩
      simp only [vexec2, vexec, hp, hq]
      exact b
    · cases hv
  | slice t x lo hi mx =>
    simp only [fexec] at hv
    split at hv
    · rename_i p q r s hp hq hr hs
      obtain ⟨a, b, rfl⟩ := same _ _ hv
      refine ⟨a, ?_⟩
      simp only [vexec2, vexec, hp, hq, hr, hs, vsliceT_eq k b]
      rfl
    · cases hv
  | indexAddr t x ix =>
    simp only [fexec] at hv
    split at hv
    · rename_i p q hp hq
      obtain ⟨a, b, rfl⟩ := same _ _ hv
      refine ⟨a, ?_⟩
      simp only [vexec2, vexec, hp, hq, vindexAddrT_eq k b]
      rfl
    · cases hv
  | makeMap t r =>
    simp only [fexec] at hv
    split at hv
    · rename_i hr
      cases hv
      obtain ⟨f1, f2⟩ := k.push (o := .map []) trivial
      refine ⟨f1, ?_⟩
      simp only [vexec2, vmakeMap]
      rw [if_pos hr, f2, k.len]
      rfl
    · cases hv
  | lookup t x y b =>
    simp only [fexec] at hv
    split at hv
    · rename_i p q hp hq
      obtain ⟨a, b, rfl⟩ := same _ _ hv
      refine ⟨a, ?_⟩
      simp only [vexec2, hp, hq, vlookupT_eq k b]
      rfl
    · cases hv
  | mapUpdate t x y z =>
    simp only [fexec] at hv
    split at hv
    · rename_i p q r hp hq hr
      obtain ⟨h2, h3, h4⟩ := map_pair hv
      cases h4
      obtain ⟨a, b⟩ := vmapUpdateT_eq k h3
      refine ⟨a, ?_⟩
      simp only [vexec2, hp, hq, hr, b]
      rfl
    · cases hv
  | range t x =>
    simp only [fexec] at hv
    split at hv
    · rename_i p hp
      obtain ⟨a, b⟩ := vrangeT_eq k hv
      refine ⟨a, ?_⟩
      simp only [vexec2, hp]
      exact b
    · cases hv
  | entry x =>
    simp only [fexec] at hv
    split at hv
    · rename_i p hp
      obtain ⟨a, b, rfl⟩ := same _ _ hv
      refine ⟨a, ?_⟩
      simp only [vexec2, hp, ventryT_eq k b]
      rfl
    · cases hv
  | call c =>
    obtain ⟨callee, args, ts⟩ := c
    cases callee with
    | builtin b =>
      simp only [fexec] at hv
      split at hv
      · rename_i x t hx ht
        split at hv
        · obtain ⟨a, b, rfl⟩ := same _ _ hv
          refine ⟨a, ?_⟩
          have h0 : ts[0]? = some t := by rw [← Array.getElem?_toList, ht]; rfl
          simp only [vexec2, vexec, hx, vbuiltin, h0, vlenT_eq k b]
          rfl
        · split at hv
          · rename_i hu
            obtain ⟨h2, h3, h4⟩ := map_pair hv
            cases h4
            obtain ⟨a, b⟩ := vclearT_eq k h3
            refine ⟨a, ?_⟩
            simp only [vexec2, hx, ht]
            rw [if_pos hu, b]
            rfl
          · cases hv
        · obtain ⟨a, b, rfl⟩ := same _ _ hv
          refine ⟨a, ?_⟩
          simp only [vexec2, hx, ht, b]
          rfl
        · cases hv
      · rename_i x y t t2 hx ht
        split at hv
        · obtain ⟨a, b⟩ := vappT_eq k hv
          refine ⟨a, ?_⟩
          simp only [vexec2, hx, ht]
          rw [if_pos (mdA_shr _)]
          exact b
        · obtain ⟨a, b⟩ := vcopyT_eq k hv
          refine ⟨a, ?_⟩
          simp only [vexec2, vexec, hx, vbuiltin, ht]
          exact b
        · obtain ⟨a, b, rfl⟩ := same _ _ hv
          refine ⟨a, ?_⟩
          simp only [vexec2, vexec, hx, vbuiltin, b]
          rfl
        · obtain ⟨a, b, rfl⟩ := same _ _ hv
          refine ⟨a, ?_⟩
          simp only [vexec2, vexec, hx, vbuiltin, b]
          rfl
        · cases hv
      · cases hv
    | value f => cases hv
    | invoke a b => cases hv
  | pick a b d =>
    simp only [fexec, vexec2, vexec] at hv ⊢
    split at hv
    · exact dflt _ _ hv
    · exact dflt _ _ hv
    · cases hv
  | build t ps =>
    simp only [fexec, vexec2, vexec] at hv ⊢
    split at hv
    · exact dflt _ _ hv
    · cases hv
  | nilCheck x =>
    simp only [fexec, vexec2, vexec] at hv ⊢
    split at hv
    · split at hv
      · rename_i hn
        simp only [Option.map_some, Option.some.injEq, Prod.mk.injEq] at hv
        obtain ⟨rfl, rfl⟩ := hv
        exact ⟨k, by rw [if_pos hn]⟩
      · cases hv
    · cases hv
  | binOp a b x y d =>
    simp only [fexec, vexec2, vexec] at hv ⊢
    split at hv
    · exact dflt _ _ hv
    · cases hv
  | unOp a b x | fieldAddr a x b | field a x b | extract x a | makeInterface a x =>
    simp only [fexec, vexec2, vexec] at hv ⊢
    split at hv
    · exact dflt _ _ hv
    · cases hv
  | index d x y =>
    simp only [fexec, vexec2, vexec] at hv ⊢
    split at hv
    · exact dflt _ _ hv
    · cases hv
  | makeFunc f first captured =>
    simp only [fexec, vexec2] at hv ⊢
    cases f with
    | func g =>
      simp only [vexec] at hv ⊢
      split at hv
      · rename_i hf
        rw [if_pos hf]
        split at hv
        · simp only [Option.map_some, Option.some.injEq, Prod.mk.injEq] at hv
          obtain ⟨rfl, rfl⟩ := hv
          exact ⟨k, rfl⟩
        · cases hv
      · cases hv
    | method name =>
      simp only [vexec] at hv ⊢
      split at hv
      · rename_i hf
        rw [if_pos hf]
        split at hv
        · simp only [Option.map_some, Option.some.injEq, Prod.mk.injEq] at hv
          obtain ⟨rfl, rfl⟩ := hv
          exact ⟨k, rfl⟩
        · cases hv
      · cases hv
    | _ => cases hv
  | _ => cases hv
end Go.Vi
end
