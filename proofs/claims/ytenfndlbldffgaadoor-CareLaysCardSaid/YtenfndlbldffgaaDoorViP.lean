/- Vi, part P: each order that is drawn may be had by bringing forward. -/
import Derived.Test.YtenfndlbldffgaaDoorViO
set_option autoImplicit false
set_option linter.unusedVariables false
set_option linter.unusedSimpArgs false
namespace Go.Vi
open Region

def befOk (ops : Array Oper) (b : Array Nat) (o : Oper) (j : Nat) : Bool :=
  o.after.any fun e => binds .any e && (e.on == j || (decide (j < e.on) && (b.getD e.on 0).testBit j))

def edgesOk (m : Region.Mode) (ops : Array Oper) (rank : Nat → Nat) : Bool :=
  (List.range ops.size).all fun i => match ops[i]? with
    | none => false
    | some o => o.after.all fun e => !binds m e || (decide (e.on < ops.size) && decide (rank e.on < rank i))

def pairsOk (ok : Nat → Nat → Bool) (ops : Array Oper) (b : Array Nat) : Bool :=
  (List.range ops.size).all fun i => match ops[i]? with
    | none => false
    | some o => (o.after.all fun e => !binds .any e || decide (e.on < i)) && (List.range i).all fun j => if (b.getD i 0).testBit j then befOk ops b o j else ok j i

def drawOkOf (ok : Nat → Nat → Bool) (ops : Array Oper) : Bool :=
  pairsOk ok ops (before ops) &&
  (if departs ops then edgesOk .text ops id && edgesOk .gc ops (fun i => (linearise .gc ops 0).idxOf i) else true)

def drawOk (md : Oper → Md) (ops : Array Oper) : Bool := drawOkOf (okIdx md ops) ops

theorem range_split {p : Nat → Bool} {i : Nat} : ∀ (l : List Nat), l.Pairwise (· < ·) → i ∈ l → p i = true →
    ∃ pre post, l.filter p = pre ++ i :: post ∧ l.filter (fun x => p x && !(x == i)) = pre ++ post ∧ ∀ j ∈ pre, j < i ∧ p j = true
  | [], _, h, _ => by cases h
  | x :: r, hp, h, hi => by
    have hx : ∀ y ∈ r, x < y := (List.pairwise_cons.1 hp).1
    have hr := (List.pairwise_cons.1 hp).2
    by_cases hxi : x = i
    · subst hxi
      refine ⟨[], r.filter p, by simp [hi], ?_, fun j h => by cases h⟩
      have : ∀ y ∈ r, (p y && !(y == x)) = p y := fun y hy => by
        have : y ≠ x := by have := hx y hy; omega
        simp [this]
      rw [List.filter_cons]
      simp [List.filter_congr this]
    · have hir : i ∈ r := by cases h with | head => exact absurd rfl hxi | tail _ h => exact h
      obtain ⟨pre, post, h1, h2, h3⟩ := range_split r hr hir hi
      by_cases hpx : p x = true
      · refine ⟨x :: pre, post, by simp [hpx, h1], ?_, fun j hj => ?_⟩
        · rw [List.filter_cons]
          simp [hpx, hxi, h2]
        · rcases List.mem_cons.1 hj with rfl | hj
          · exact ⟨hx i hir, hpx⟩
          · exact h3 j hj
      · refine ⟨pre, post, by simp [hpx, h1], ?_, h3⟩
        rw [List.filter_cons]
        simp [hpx, h2]

section
variable {m : Region.Mode} {ok : Nat → Nat → Bool} {ops : Array Oper} {b : Array Nat} {rank : Nat → Nat}

def edgeSet (m : Region.Mode) (ops : Array Oper) (i : Nat) (e : Edge) : Prop := ∃ o, ops[i]? = some o ∧ e ∈ o.after ∧ binds m e = true

theorem binds_any {e : Edge} (h : binds .any e = true) : binds m e = true := by
  unfold binds at h ⊢
  split at h <;> simp_all

theorem pairs_edge (hp : pairsOk ok ops b = true) {i : Nat} {e : Edge} (h : edgeSet .any ops i e) : e.on < i := by
  obtain ⟨o, ho, he, hb⟩ := h
  have hi : i < ops.size := (Array.getElem?_eq_some_iff.1 ho).1
  have := List.all_eq_true.1 hp i (List.mem_range.2 hi)
  rw [ho] at this
  simp only [Bool.and_eq_true, Array.all_eq_true_iff_forall_mem] at this
  have := this.1 e he
  simpa [hb] using this

theorem bef_done (hp : pairsOk ok ops b = true) {D : Nat → Prop} (hD : ∀ d, D d → ∀ e, edgeSet .any ops d e → D e.on) : ∀ (i : Nat), i < ops.size → (∀ e, edgeSet .any ops i e → D e.on) → ∀ j, j < i → (b.getD i 0).testBit j = true → D j := by
  intro i
  induction i using Nat.strongRecOn with
  | _ i ih =>
    intro hi he j hj hb
    have h := List.all_eq_true.1 hp i (List.mem_range.2 hi)
    cases ho : ops[i]? with
    | none => rw [ho] at h; cases h
    | some o =>
      rw [ho] at h
      simp only [Bool.and_eq_true] at h
      have h := List.all_eq_true.1 h.2 j (List.mem_range.2 hj)
      rw [if_pos hb] at h
      unfold befOk at h
      rw [Array.any_eq_true'] at h
      obtain ⟨e, hm, h⟩ := h
      simp only [Bool.and_eq_true, Bool.or_eq_true, beq_iff_eq, decide_eq_true_eq] at h
      obtain ⟨h1, h2⟩ := h
      have hes : edgeSet .any ops i e := ⟨o, ho, hm, h1⟩
      have hlt := pairs_edge hp hes
      rcases h2 with h2 | ⟨h2, h3⟩
      · exact h2 ▸ he e hes
      · exact ih e.on hlt (by omega) (fun e' h' => hD _ (he e hes) e' h') j h2 h3

theorem pairs_pair (hp : pairsOk ok ops b = true) {i j : Nat} (hi : i < ops.size) (hj : j < i) (hb : (b.getD i 0).testBit j = false) : ok j i = true := by
  have h := List.all_eq_true.1 hp i (List.mem_range.2 hi)
  cases ho : ops[i]? with
  | none => rw [ho] at h; cases h
  | some o =>
    rw [ho] at h
    simp only [Bool.and_eq_true] at h
    have h := List.all_eq_true.1 h.2 j (List.mem_range.2 hj)
    rw [hb] at h
    simpa using h

theorem edges_rank (hr : edgesOk m ops rank = true) {i : Nat} {e : Edge} (h : edgeSet m ops i e) : e.on < ops.size ∧ rank e.on < rank i := by
  obtain ⟨o, ho, he, hb⟩ := h
  have hi : i < ops.size := (Array.getElem?_eq_some_iff.1 ho).1
  have := List.all_eq_true.1 hr i (List.mem_range.2 hi)
  rw [ho] at this
  simp only [Array.all_eq_true_iff_forall_mem] at this
  have := this e he
  simpa [hb] using this

def readyB (m : Region.Mode) (ops : Array Oper) (listed : Array Bool) (i : Nat) : Bool :=
  !listed.getD i true && ((ops[i]?).map (·.after.all fun e => !binds m e || listed.getD e.on false)).getD false

theorem go_sch (hp : pairsOk ok ops b = true) (hr : edgesOk m ops rank = true) : ∀ (fuel t : Nat) (listed : Array Bool) (acc : List Nat), listed.size = ops.size →
    (∀ d, d < ops.size → listed.getD d true = true → ∀ e, edgeSet .any ops d e → listed.getD e.on true = true) →
    ((List.range ops.size).filter fun i => !listed.getD i true).length ≤ fuel →
    ∃ l, linearise.go m ops fuel t listed acc = acc.reverse ++ l ∧ Sch ok l ((List.range ops.size).filter fun i => !listed.getD i true)
  | 0, t, listed, acc, hs, hD, hf => by
    have : ((List.range ops.size).filter fun i => !listed.getD i true) = [] := List.length_eq_zero_iff.1 (Nat.le_zero.1 hf)
    rw [this]
    exact ⟨[], by simp [linearise.go], .nil⟩
  | fuel + 1, t, listed, acc, hs, hD, hf => by
    have hun : linearise.go m ops (fuel + 1) t listed acc = match ((List.range ops.size).filter (readyB m ops listed))[t % ((List.range ops.size).filter (readyB m ops listed)).length]? with
      | some i => linearise.go m ops fuel (t / ((List.range ops.size).filter (readyB m ops listed)).length) (listed.setIfInBounds i true) (i :: acc)
      | none => acc.reverse := rfl
    rw [hun]
    generalize hrs : (List.range ops.size).filter (readyB m ops listed) = rs
    have hprog : ∀ (k x : Nat), rank x = k → x < ops.size → listed.getD x true = false → rs ≠ [] := by
      intro k
      induction k using Nat.strongRecOn with
      | _ k ih =>
        intro x hk hx hl
        by_cases hrx : readyB m ops listed x = true
        · intro h0
          have : x ∈ rs := by rw [← hrs]; exact List.mem_filter.2 ⟨List.mem_range.2 hx, hrx⟩
          rw [h0] at this
          cases this
        · have ho : ops[x]? = some ops[x] := Array.getElem?_eq_getElem hx
          simp only [readyB, hl, ho, Option.map_some, Option.getD_some, Bool.not_false, Bool.true_and] at hrx
          rw [Array.all_eq_true_iff_forall_mem] at hrx
          obtain ⟨e, hrx⟩ := Classical.not_forall.1 hrx
          obtain ⟨he, hb⟩ := Classical.not_imp.1 hrx
          simp only [Bool.or_eq_true, Bool.not_eq_true', not_or, Bool.not_eq_false, Bool.not_eq_true] at hb
          obtain ⟨h1, h2⟩ := edges_rank hr (i := x) (e := e) ⟨_, ho, he, hb.1⟩
          refine ih (rank e.on) (by omega) e.on rfl h1 ?_
          have hlt : e.on < listed.size := by omega
          simpa [Array.getD, hlt] using hb.2
    cases hsel : rs[t % rs.length]? with
    | none =>
      simp only
      have hnil : rs = [] := by
        cases rs with
        | nil => rfl
        | cons y ys =>
          have := Nat.mod_lt t (show 0 < (y :: ys).length by simp)
          rw [List.getElem?_eq_getElem this] at hsel
          cases hsel
      refine ⟨[], by simp, ?_⟩
      have : ((List.range ops.size).filter fun i => !listed.getD i true) = [] := by
        rw [List.filter_eq_nil_iff]
        intro x hx hl
        exact hprog _ x rfl (List.mem_range.1 hx) (by simpa using hl) hnil
      rw [this]
      exact .nil
    | some i =>
      simp only
      have hi := List.mem_of_getElem? hsel
      rw [← hrs, List.mem_filter, List.mem_range] at hi
      obtain ⟨hi1, hi2⟩ := hi
      have ho : ops[i]? = some ops[i] := Array.getElem?_eq_getElem hi1
      simp only [readyB, Bool.and_eq_true, ho, Option.map_some, Option.getD_some] at hi2
      obtain ⟨hi2, hi3⟩ := hi2
      rw [Array.all_eq_true_iff_forall_mem] at hi3
      have hedge : ∀ e, edgeSet m ops i e → listed.getD e.on true = true := by
        rintro e ⟨o, ho', he, hb⟩
        rw [ho] at ho'
        cases ho'
        have h1 := hi3 e he
        rw [hb] at h1
        simp only [Bool.not_true, Bool.false_or] at h1
        by_cases hlt : e.on < listed.size
        · simpa [Array.getD, hlt] using h1
        · simp [Array.getD, hlt] at h1
      obtain ⟨pre, post, h1, h2, h3⟩ := range_split (p := fun i => !listed.getD i true) (i := i) (List.range ops.size) List.pairwise_lt_range (List.mem_range.2 hi1) hi2
      have hset : ∀ x, (listed.setIfInBounds i true).getD x true = (listed.getD x true || x == i) := by
        intro x
        by_cases hxi : x = i
        · subst hxi
          simp [Array.getD_eq_getD_getElem?, hs, hi1]
        · simp [Array.getD_eq_getD_getElem?, Array.getElem?_setIfInBounds_ne (Ne.symm hxi), hxi]
      have hfil : ((List.range ops.size).filter fun x => !(listed.setIfInBounds i true).getD x true) = pre ++ post := by
        rw [← h2]
        congr 1
        funext x
        rw [hset]
        simp
      obtain ⟨l, e1, e2⟩ := go_sch hp hr fuel (t / rs.length) (listed.setIfInBounds i true) (i :: acc) (by simp [hs]) (fun d hd hl e he => by
          rw [hset] at hl ⊢
          rcases Bool.or_eq_true_iff.1 hl with hl | hl
          · simp [hD d hd hl e he]
          · have : d = i := by simpa using hl
            subst this
            obtain ⟨o, h1, h2, h3⟩ := he
            simp [hedge e ⟨o, h1, h2, binds_any h3⟩]) (by
          rw [hfil]
          rw [h1] at hf
          simp at hf ⊢
          omega)
      refine ⟨i :: l, by rw [e1]; simp, ?_⟩
      rw [h1]
      rw [hfil] at e2
      refine .cons i l pre post (fun j hj => ?_) e2
      obtain ⟨hj1, hj2⟩ := h3 j hj
      cases hb : (b.getD i 0).testBit j with
      | false => exact pairs_pair hp hi1 hj1 hb
      | true =>
        have := bef_done hp (D := fun d => d < ops.size → listed.getD d true = true) (fun d hd e he => fun hlt => ?_) i hi1 (fun e ⟨o, h1, h2, h3⟩ _ => hedge e ⟨o, h1, h2, binds_any h3⟩) j hj1 hb (by omega)
        · simp [this] at hj2
        · have hdl := pairs_edge hp he
          by_cases hds : d < ops.size
          · exact hD d hds (hd hds) e he
          · obtain ⟨o, h1, _⟩ := he
            have := (Array.getElem?_eq_some_iff.1 h1).1
            omega

theorem lin_sch (hp : pairsOk ok ops b = true) (hr : edgesOk m ops rank = true) (t : Nat) : Sch ok (linearise m ops t) (List.range ops.size) := by
  have hf : ((List.range ops.size).filter fun i => !(Array.replicate ops.size false).getD i true) = List.range ops.size := by
    rw [List.filter_eq_self]
    intro x hx
    simp [Array.getD_eq_getD_getElem?, List.mem_range.1 hx]
  obtain ⟨l, e1, e2⟩ := go_sch hp hr ops.size t (Array.replicate ops.size false) [] (by simp) (fun d hd hl => by simp [Array.getD_eq_getD_getElem?, hd] at hl) (by rw [hf]; simp)
  rw [hf] at e2
  have : linearise m ops t = l := by unfold linearise; rw [e1]; simp
  rw [this]
  exact e2

theorem any_rank (hp : pairsOk ok ops b = true) : edgesOk .any ops id = true := by
  unfold edgesOk
  rw [List.all_eq_true]
  intro i hi
  have hi := List.mem_range.1 hi
  have ho : ops[i]? = some ops[i] := Array.getElem?_eq_getElem hi
  rw [ho]
  simp only
  rw [Array.all_eq_true_iff_forall_mem]
  intro e he
  cases hb : binds .any e with
  | false => rfl
  | true =>
    have := pairs_edge hp (i := i) (e := e) ⟨_, ho, he, hb⟩
    simp [id]
    omega

theorem schedule_sch (h : drawOkOf ok ops = true) (mixed : Bool) (t : Nat) : Sch ok (schedule mixed ops t) (List.range ops.size) := by
  unfold drawOkOf at h
  rw [Bool.and_eq_true] at h
  obtain ⟨hp, h⟩ := h
  unfold schedule
  split
  · exact lin_sch hp (any_rank hp) t
  · rename_i hd
    have hd : departs ops = true := by cases hx : departs ops <;> simp_all
    rw [if_pos hd, Bool.and_eq_true] at h
    split
    · exact lin_sch hp h.1 _
    · exact lin_sch hp h.2 _
end
end Go.Vi
