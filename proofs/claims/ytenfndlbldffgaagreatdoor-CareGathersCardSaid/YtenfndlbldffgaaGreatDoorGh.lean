/- Part of the proofs of the tied cards of Care: the texts CyM CyN CyO CzFirst CyL CyP CyS CyT. Conditions: none of its own. -/
import Derived.Test.YtenfndlbldffgaaGreatDoorGg
import Derived.Test.YtenfndlbldffgaaGreatDoorGd
import Derived.KernelRfl
import Derived.Test.YtenfndlbldffgaaGreatDoorProg
set_option autoImplicit false
set_option linter.unusedVariables false
set_option linter.unusedSimpArgs false
namespace Go.Vi
namespace Lay
open Go Go.Vi Go.Proofs
def hit (r : Rc) (p c : Nat) : Bool := laysB r && (decide (r.page.toNat = p) && (decide (r.pos.toNat ≤ c) && decide (c < r.pos.toNat + (lrows r.aft).length)))
def mk (l : List Rc) (a : Nat) : Nat → Nat → Nat → Bool
 | 0, _, _ => false
 | n + 1, p, c => mk l a n p c || (match l[a + n]? with
   | some r => hit r p c
   | none => false)
theorem mk_next {l : List Rc} {a n p c : Nat} {r : Rc} (h : l[a + n]? = some r) : mk l a (n + 1) p c = (mk l a n p c || hit r p c) := by simp only [mk, h]
theorem mk_no {l : List Rc} {a n p c : Nat} {r : Rc} (h : l[a + n]? = some r) (hl : laysB r = false) : mk l a (n + 1) p c = mk l a n p c := by
 rw [mk_next h, hit, hl]; simp
def mkK (l : List Rc) (a n : Nat) (r : Rc) (k p c : Nat) : Bool := mk l a n p c || (decide (r.page.toNat = p) && (decide (r.pos.toNat ≤ c) && decide (c < r.pos.toNat + k)))
theorem mkK_zero {l : List Rc} {a n p c : Nat} {r : Rc} : mkK l a n r 0 p c = mk l a n p c := by
 unfold mkK
 have : (decide (r.pos.toNat ≤ c) && decide (c < r.pos.toNat + 0)) = false := by
  rw [Bool.and_eq_false_iff, decide_eq_false_iff_not, decide_eq_false_iff_not]; omega
 rw [this]; simp
theorem mkK_next {l : List Rc} {a n p c k : Nat} {r : Rc} : mkK l a n r (k + 1) p c = (mkK l a n r k p c || (decide (r.page.toNat = p) && decide (c = r.pos.toNat + k))) := by
 unfold mkK
 rw [Bool.or_assoc, ← Bool.and_or_distrib_left]
 congr 2
 rw [Bool.eq_iff_iff]
 simp only [Bool.and_eq_true, Bool.or_eq_true, decide_eq_true_eq]
 omega
theorem mkK_full {l : List Rc} {a n p c : Nat} {r : Rc} (h : l[a + n]? = some r) (hl : laysB r = true) : mkK l a n r (lrows r.aft).length p c = mk l a (n + 1) p c := by
 rw [mk_next h, hit, hl]; rfl
def Mk (M : List AV) (g : Nat → Nat → Bool) : Prop := ∀ p c : Nat, p < 120 → c < 128 → M[p * 128 + c]? = some (.bool (g p c))
theorem Mk.congr {M : List AV} {g g' : Nat → Nat → Bool} (h : Mk M g) (e : ∀ p c, g p c = g' p c) : Mk M g' := fun p c hp hc => by rw [← e]; exact h p c hp hc
theorem Mk.next {M : List AV} {g g' : Nat → Nat → Bool} {p0 c0 : Nat} (h : Mk M g) (hp : p0 < 120) (hc : c0 < 128) (e : ∀ p c, g' p c = (g p c || (decide (p0 = p) && decide (c = c0)))) : Mk (M.set (p0 * 128 + c0) (.bool true)) g' := fun p c hp' hc' => by
 have hb := h p0 c0 hp hc
 by_cases hh : p0 = p ∧ c = c0
 · obtain ⟨rfl, rfl⟩ := hh
   rw [List.getElem?_set_self (List.getElem?_eq_some_iff.1 hb).1, e]
   simp
 · rw [List.getElem?_set_ne (by omega), h p c hp' hc', e]
   have : (decide (p0 = p) && decide (c = c0)) = false := by
    rw [Bool.and_eq_false_iff, decide_eq_false_iff_not, decide_eq_false_iff_not]; omega
   rw [this, Bool.or_false]
def Mk1 (M : List AV) (g : Nat → Bool) : Prop := ∀ c : Nat, c < 128 → M[c]? = some (.bool (g c))
theorem Mk1.congr {M : List AV} {g g' : Nat → Bool} (h : Mk1 M g) (e : ∀ c, g c = g' c) : Mk1 M g' := fun c hc => by rw [← e]; exact h c hc
theorem Mk1.next {M : List AV} {g g' : Nat → Bool} {c0 : Nat} (h : Mk1 M g) (hc : c0 < 128) (e : ∀ c, g' c = (g c || decide (c = c0))) : Mk1 (M.set c0 (.bool true)) g' := fun c hc' => by
 have hb := h c0 hc
 by_cases hh : c = c0
 · subst hh
   rw [List.getElem?_set_self (List.getElem?_eq_some_iff.1 hb).1, e]
   simp
 · rw [List.getElem?_set_ne (by omega), h c hc', e]
   simp [hh]
def runEnd (g : Nat → Bool) (e : Nat) : Nat := if h : e < 128 ∧ g e = true then runEnd g (e + 1) else e
termination_by 128 - e
theorem runEnd_go {g : Nat → Bool} {e : Nat} (h1 : e < 128) (h2 : g e = true) : runEnd g (e + 1) = runEnd g e := by
 rw [runEnd.eq_1 g e, dif_pos ⟨h1, h2⟩]
theorem runEnd_stop {g : Nat → Bool} {e : Nat} (h : ¬ (e < 128 ∧ g e = true)) : runEnd g e = e := by
 rw [runEnd, dif_neg h]
theorem runEnd_le (g : Nat → Bool) (e : Nat) : e ≤ runEnd g e ∧ (e ≤ 128 → runEnd g e ≤ 128) := by
 by_cases h : e < 128 ∧ g e = true
 · have := runEnd_le g (e + 1)
   rw [runEnd_go h.1 h.2] at this
   omega
 · rw [runEnd_stop h]
   omega
termination_by 128 - e
def pcs (g : Nat → Bool) (b : List (List AV)) (p i : Nat) : List (List AV) :=
 if h : i < 128 then (if i < runEnd g i then [[.int .i64 p, .int .i64 i, .list .loose ((b.drop i).take (runEnd g i - i))]] else []) ++ pcs g b p (runEnd g i + 1) else []
termination_by 128 - i
decreasing_by have := (runEnd_le g i).1; omega
theorem pcs_stop {g : Nat → Bool} {b : List (List AV)} {p i : Nat} (h : ¬ i < 128) : pcs g b p i = [] := by rw [pcs, dif_neg h]
theorem pcs_run {g : Nat → Bool} {b : List (List AV)} {p i e : Nat} (h : i < 128) (he : runEnd g i = e) (hie : i < e) : pcs g b p i = [.int .i64 p, .int .i64 i, .list .loose ((b.drop i).take (e - i))] :: pcs g b p (e + 1) := by
 rw [pcs, dif_pos h, he, if_pos hie]; rfl
theorem pcs_next {g : Nat → Bool} {b : List (List AV)} {p i : Nat} (h : i < 128) (he : runEnd g i = i) : pcs g b p i = pcs g b p (i + 1) := by
 rw [pcs, dif_pos h, he, if_neg (by omega)]; rfl
theorem pcs_none {g : Nat → Bool} {b : List (List AV)} {p : Nat} (hg : ∀ c, g c = false) (i : Nat) : pcs g b p i = [] := by
 by_cases h : i < 128
 · rw [pcs_next h (runEnd_stop (by rw [hg]; simp)), pcs_none hg (i + 1)]
 · exact pcs_stop h
termination_by 128 - i
def gatP (g : Nat → Nat → Bool) (sh : List Sheet) : Nat → List (List AV)
 | 0 => []
 | k + 1 => gatP g sh k ++ (match sh[k]? with
   | some s => pcs (g k) s.1 k 0
   | none => [])
def stmP (sh : List Sheet) : Nat → List (List AV)
 | 0 => []
 | k + 1 => stmP sh k ++ (match sh[k]? with
   | some s => if 0 < s.2 then [[.int .i64 s.2]] else []
   | none => [])
theorem gatP_next {g : Nat → Nat → Bool} {sh : List Sheet} {k : Nat} {s : Sheet} (h : sh[k]? = some s) : gatP g sh (k + 1) = gatP g sh k ++ pcs (g k) s.1 k 0 := by simp only [gatP, h]
theorem stmP_pos {sh : List Sheet} {k : Nat} {s : Sheet} (h : sh[k]? = some s) (h0 : 0 < s.2) : stmP sh (k + 1) = stmP sh k ++ [[.int .i64 s.2]] := by simp only [stmP, h, if_pos h0]
theorem stmP_no {sh : List Sheet} {k : Nat} {s : Sheet} (h : sh[k]? = some s) (h0 : ¬ 0 < s.2) : stmP sh (k + 1) = stmP sh k := by simp only [stmP, h, if_neg h0, List.append_nil]
theorem stmP_length {sh : List Sheet} : ∀ k, (stmP sh k).length ≤ k
 | 0 => Nat.le_refl _
 | k + 1 => by
   have := stmP_length (sh := sh) k
   simp only [stmP, List.length_append]
   split
   · split <;> simp <;> omega
   · simp; omega
theorem pcs_length {g : Nat → Bool} {b : List (List AV)} {p : Nat} (i : Nat) (hi : i ≤ 129) : (pcs g b p i).length + i ≤ 129 := by
 by_cases h : i < 128
 · have h1 := runEnd_le g i
   have h2 := pcs_length (g := g) (b := b) (p := p) (runEnd g i + 1) (by omega)
   by_cases hh : i < runEnd g i
   · rw [pcs_run h rfl hh, List.length_cons]; omega
   · have he : runEnd g i = i := by omega
     rw [he] at h2
     rw [pcs_next h he]; omega
 · rw [pcs_stop h]; simp; omega
termination_by 128 - i
decreasing_by have := (runEnd_le g i).1; omega
theorem gatP_length {g : Nat → Nat → Bool} {sh : List Sheet} : ∀ k, (gatP g sh k).length ≤ 129 * k
 | 0 => Nat.le_refl _
 | k + 1 => by
   have := gatP_length (g := g) (sh := sh) k
   simp only [gatP, List.length_append]
   split
   · rename_i s _
     have := pcs_length (g := g k) (b := s.1) (p := k) 0 (by omega)
     omega
   · simp; omega
def NoSt (g : Nat → Nat → Bool) (sh : List Sheet) : Prop := ∀ (p : Nat) (s : Sheet), sh[p]? = some s → 0 ≤ s.2 ∧ (s.2 = 0 → ∀ c, g p c = false)
theorem noSt_fwd {l : List Rc} {a : Nat} : ∀ {n : Nat}, a + n ≤ l.length → NoSt (mk l a n) (fwd l zeroSh a n)
 | 0, _ => fun p s h => by
   have := List.eq_of_mem_replicate (List.mem_of_getElem? (show zeroSh[p]? = some s from h))
   subst this
   exact ⟨Int.le_refl _, fun _ c => rfl⟩
 | n + 1, hn => fun p s h => by
   obtain ⟨r, hr⟩ : ∃ r, l[a + n]? = some r := ⟨_, List.getElem?_eq_getElem (by omega)⟩
   have ih := noSt_fwd (l := l) (a := a) (n := n) (by omega)
   rw [fwd_succ] at h
   simp only [stepR, hr] at h
   by_cases hl : laysB r = true
   · rw [layR, if_pos hl] at h
     unfold updS at h
     split at h
     · rename_i s0 hs0
       by_cases e : r.page.toNat = p
       · subst e
         rw [List.getElem?_set_self (List.getElem?_eq_some_iff.1 hs0).1] at h
         cases h
         exact ⟨by show 0 ≤ ((a + n : Nat) : Int) + 1; omega, fun h0 => by exfalso; have : ((a + n : Nat) : Int) + 1 = 0 := h0; omega⟩
       · rw [List.getElem?_set_ne e] at h
         obtain ⟨h1, h2⟩ := ih p s h
         refine ⟨h1, fun h0 c => ?_⟩
         rw [mk_next hr, h2 h0 c, hit]
         simp [e]
     · rename_i hs0
       obtain ⟨h1, h2⟩ := ih p s h
       refine ⟨h1, fun h0 c => ?_⟩
       rw [mk_next hr, h2 h0 c, hit]
       have e : r.page.toNat ≠ p := fun e => by rw [e, h] at hs0; cases hs0
       simp [e]
   · have hl' : laysB r = false := by simpa using hl
     rw [layR, if_neg hl] at h
     obtain ⟨h1, h2⟩ := ih p s h
     exact ⟨h1, fun h0 c => by rw [mk_no hr hl']; exact h2 h0 c⟩
def lv (rows : List (List AV)) : AV := if rows = [] then .nils else .list .loose rows
noncomputable def gatherR (l : List Rc) (a : Int) : AV := if soundR l = true then (if a < 0 ∨ a > l.length then .tup [.nils, .nils, .int .i64 2] else .tup [lv (gatP (mk l a.toNat (l.length - a.toNat)) (fwd l zeroSh a.toNat (l.length - a.toNat)) 120), lv (stmP (fwd l zeroSh a.toNat (l.length - a.toNat)) 120), .int .i64 0]) else .tup [.nils, .nils, .int .i64 50]
structure PRows (H : Hp) (rows ps : List (List AV)) : Prop where
 len : rows.length = ps.length
 row : ∀ (i : Nat) (r : List AV), rows[i]? = some r → ∃ (p a : Int) (t : Bool) (l : Nat) (bs : List (List AV)), r = [.int .i64 p, .int .i64 a, .row t l 0 bs.length] ∧ ps[i]? = some [.int .i64 p, .int .i64 a, .list .loose bs] ∧ H[l]? = some (.arr 5 1 bs) ∧ Bs bs
theorem PRows.nil {H : Hp} : PRows H [] [] := ⟨rfl, fun i r h => by cases h⟩
theorem PRows.keep {H H' : Hp} {rows ps : List (List AV)} (h : PRows H rows ps) (hk : ∀ (l : Nat) (bs : List (List AV)), H[l]? = some (.arr 5 1 bs) → H'[l]? = some (.arr 5 1 bs)) : PRows H' rows ps :=
 ⟨h.len, fun i r hr => by
  obtain ⟨p, a, t, l, bs, e1, e2, e3, e4⟩ := h.row i r hr
  exact ⟨p, a, t, l, bs, e1, e2, hk l bs e3, e4⟩⟩
theorem PRows.snoc {H : Hp} {rows ps : List (List AV)} {p a : Int} {t : Bool} {l n : Nat} {bs : List (List AV)} (h : PRows H rows ps) (hl : H[l]? = some (.arr 5 1 bs)) (hn : n = bs.length) (hb : Bs bs) : PRows H (rows ++ [[.int .i64 p, .int .i64 a, .row t l 0 n]]) (ps ++ [[.int .i64 p, .int .i64 a, .list .loose bs]]) := by
 subst hn
 refine ⟨by simp [h.len], fun i r hr => ?_⟩
 by_cases hi : i < rows.length
 · rw [List.getElem?_append_left hi] at hr
   rw [List.getElem?_append_left (by rw [← h.len]; exact hi)]
   exact h.row i r hr
 · have hii : i = rows.length := by
    have := (List.getElem?_eq_some_iff.1 hr).1
    simp at this
    omega
   subst hii
   rw [List.getElem?_append_right (Nat.le_refl _)] at hr
   simp at hr
   subst hr
   exact ⟨p, a, t, l, bs, rfl, by rw [h.len, List.getElem?_append_right (Nat.le_refl _)]; simp, hl, hb⟩
theorem PRows.ret {H : Hp} {rows ps : List (List AV)} {L : Nat} (h : PRows H rows ps) (hL : rows = [] ∨ H[L]? = some (.arr 108 3 rows)) : ret1 H (pval L rows) = some (lv ps) := by
 by_cases he : rows = []
 · have hp : ps = [] := List.eq_nil_of_length_eq_zero (by rw [← h.len, he]; rfl)
   subst he
   subst hp
   rfl
 · have hp : ps ≠ [] := fun e => he (List.eq_nil_of_length_eq_zero (by rw [h.len, e]; rfl))
   rw [pval, if_neg he, lv, if_neg hp]
   show retD 3 H (.row false L 0 rows.length) = _
   refine retD_row (hL.resolve_left he) rfl (mapL_get2 h.len fun i r y hr hy => ?_)
   obtain ⟨p, a, t, l, bs, rfl, e2, e3, e4⟩ := h.row i r hr
   rw [e2] at hy
   cases hy
   have hval := bytes_val e4
   exact mapL_cons rfl (mapL_cons rfl (mapL_cons (retD_row e3 rfl (mapL_id fun r hr => mapL_id fun x hx => retD_val (List.all_eq_true.1 (List.all_eq_true.1 hval r hr) x hx))) rfl))
theorem int_val {rows : List (List AV)} (h : ∀ r ∈ rows, ∃ v, r = [.int .i64 v]) : allVal rows = true :=
 List.all_eq_true.2 fun q hq => by obtain ⟨v, rfl⟩ := h q hq; rfl
theorem stmP_int {sh : List Sheet} : ∀ k, ∀ r ∈ stmP sh k, ∃ v, r = [AV.int .i64 v]
 | 0, r, h => by cases h
 | k + 1, r, h => by
   simp only [stmP, List.mem_append] at h
   rcases h with h | h
   · exact stmP_int k r h
   · split at h
     · split at h
       · simp at h; exact ⟨_, h⟩
       · cases h
     · cases h
theorem ret_ints {H : Hp} {rows : List (List AV)} {L : Nat} (hv : ∀ r ∈ rows, ∃ v, r = [AV.int .i64 v]) (hL : rows = [] ∨ H[L]? = some (.arr 3 1 rows)) : ret1 H (pval L rows) = some (lv rows) := by
 by_cases he : rows = []
 · subst he; rfl
 · rw [pval, if_neg he, lv, if_neg he]
   show retD 3 H (.row false L 0 rows.length) = _
   have hval := int_val hv
   exact retD_row (hL.resolve_left he) rfl (mapL_id fun r hr => mapL_id fun x hx => retD_val (List.all_eq_true.1 (List.all_eq_true.1 hval r hr) x hx))
def PV (b : Nat) (H : Hp) (T : TypeId) (sz : Nat) (v : AV) (rows : List (List AV)) : Prop := ∃ L, v = pval L rows ∧ b ≤ L ∧ (rows = [] ∨ H[L]? = some (.arr T sz rows))
theorem PV.nil {b : Nat} {H : Hp} {T : TypeId} {sz : Nat} : PV b H T sz .nils [] := ⟨b, rfl, Nat.le_refl _, .inl rfl⟩
theorem PV.opn {b : Nat} {H : Hp} {T : TypeId} {sz : Nat} {v : AV} {rows : List (List AV)} (h : PV b H T sz v rows) (n : Nat) (hb : b ≤ n) : ∃ L, v = pval L rows ∧ b ≤ L ∧ ((rows = [] ∧ n ≤ L) ∨ (rows ≠ [] ∧ H[L]? = some (.arr T sz rows))) := by
 obtain ⟨L, h1, h2, h3⟩ := h
 by_cases he : rows = []
 · exact ⟨n, by rw [h1, pval, pval, if_pos he, if_pos he], hb, .inl ⟨he, Nat.le_refl _⟩⟩
 · exact ⟨L, h1, h2, .inr ⟨he, h3.resolve_left he⟩⟩
theorem PV.keep {b : Nat} {H H' : Hp} {T : TypeId} {sz : Nat} {v : AV} {rows : List (List AV)} (h : PV b H T sz v rows) (hk : ∀ L, b ≤ L → H[L]? = some (.arr T sz rows) → H'[L]? = some (.arr T sz rows)) : PV b H' T sz v rows := by
 obtain ⟨L, h1, h2, h3⟩ := h
 exact ⟨L, h1, h2, h3.imp id (hk L h2)⟩
theorem PV.mk' {b : Nat} {H : Hp} {T : TypeId} {sz n : Nat} {rows : List (List AV)} {r : List AV} (h1 : b ≤ n) (h2 : H[n]? = some (.arr T sz (rows ++ [r]))) : PV b H T sz (.row false n 0 (rows.length + 1)) (rows ++ [r]) :=
 ⟨n, by simp [pval], h1, .inr h2⟩
theorem kill_keep {H : Hp} {L k n : Nat} {T : TypeId} {sz : Nat} {rows : List (List AV)} {o2 : VO} (h1 : (rows = [] ∧ n ≤ L) ∨ (rows ≠ [] ∧ H[L]? = some (.arr T sz rows))) (hn : H.length ≤ n) (h2 : H[k]? = some o2) (hne : ∀ r, o2 ≠ .arr T sz r) : (H.set L .dead)[k]? = some o2 := by
 have hk := (List.getElem?_eq_some_iff.1 h2).1
 refine get_set h2 fun e => ?_
 rcases h1 with ⟨_, h1⟩ | ⟨_, h1⟩
 · omega
 · rw [e, h2] at h1; cases h1; exact hne _ rfl
theorem setC_one {r : List AV} {k : Nat} {x : AV} (h : k < r.length) : setC r k [x] = r.set k x := by
 apply List.ext_getElem?
 intro j
 rw [setC_get (by simp; omega)]
 by_cases hj : j = k
 · subst hj
   rw [if_pos ⟨Nat.le_refl _, by simp⟩, List.getElem?_set_self h]
   simp
 · rw [if_neg (by simp; omega), List.getElem?_set_ne (Ne.symm hj)]
theorem ret_tup3 {H : Hp} {x y z x' y' z' : AV} (h1 : ret1 H x = some x') (h2 : ret1 H y = some y') (h3 : ret1 H z = some z') : retv H (.tup [x, y, z]) = some (.tup [x', y', z']) := by
 simp only [retv, mapL, h1, h2, h3, Option.map_some]
end Lay
end Go.Vi
set_option maxRecDepth 100000
namespace Go.Vi
open Go Go.Vi Go.Proofs
attribute [local irreducible] vops vopsD vc
namespace Lay
def m0 : List AV := List.replicate 15360 (.bool false)
theorem zr105 : zrOf Tryz.prog 105 = some (.agg m0) := by kernel_rfl
theorem m0_len : m0.length = 15360 := List.length_replicate ..
theorem m0_mk {g : Nat → Nat → Bool} (hg : ∀ p c, g p c = false) : Mk m0 g := fun p c hp hc => by
 rw [m0, List.getElem?_replicate, if_pos (by omega), hg]
attribute [local irreducible] m0
theorem el105 : elemAt Tryz.prog 105 = some (some 120, 104, 128) := by kernel_rfl
theorem el104 : elemAt Tryz.prog 104 = some (some 128, 4, 1) := by kernel_rfl
theorem ag4 : aggOf Tryz.prog 4 = some false := by kernel_rfl
theorem zc108 : zcOf Tryz.prog 108 = some [.int .i64 0, .int .i64 0, .nils] := by kernel_rfl
theorem by108 : byOf Tryz.prog 108 = some 40 := by kernel_rfl
structure GI (q : Nat) (Hx : Hp) (L : Nat) (locs : List Nat) (sh : List Sheet) (M : List AV) (g : Nat → Nat → Bool) : Prop where
 img : BImg Hx L locs sh
 m : Hx[0]? = some (.arr 105 15360 [M])
 o : Hx[q]? = some (.arr 42 2 [[.int .i64 0, .row false L 0 120]])
 n : sh.length = 120
 mar : Mk M g
 q0 : q ≠ 0
 nL : L ≠ 0 ∧ L ≠ q
 nl : 0 ∉ locs ∧ q ∉ locs
section
variable {q L : Nat} {Hx : Hp} {locs : List Nat} {sh : List Sheet} {M : List AV} {g g' : Nat → Nat → Bool}
theorem GI.app (h : GI q Hx L locs sh M g) (b : Hp) : GI q (Hx ++ b) L locs sh M g := ⟨h.img.app, get_app h.m, get_app h.o, h.n, h.mar, h.q0, h.nL, h.nl⟩
theorem GI.congr (h : GI q Hx L locs sh M g) (e : ∀ p c, g p c = g' p c) : GI q Hx L locs sh M g' := ⟨h.img, h.m, h.o, h.n, h.mar.congr e, h.q0, h.nL, h.nl⟩
theorem GI.byte (h : GI q Hx L locs sh M g) {i l : Nat} {s : Sheet} {b : List (List AV)} (hl : locs[i]? = some l) (hs : sh[i]? = some s) (hb : b.length = s.1.length) : GI q (Hx.set l (.arr 5 1 b)) L locs (sh.set i (b, s.2)) M g := by
 have hm := List.mem_of_getElem? hl
 exact ⟨h.img.byte hl hs hb, get_set h.m (fun e => h.nl.1 (e ▸ hm)), get_set h.o (fun e => h.nl.2 (e ▸ hm)), by simp [h.n], h.mar, h.q0, h.nL, h.nl⟩
theorem GI.stamp (h : GI q Hx L locs sh M g) {i l : Nat} {s : Sheet} {k : Int} {rows : List (List AV)} (hr : Hx[L]? = some (.arr 95 2 rows)) (hl : locs[i]? = some l) (hs : sh[i]? = some s) : GI q (Hx.set L (.arr 95 2 (rows.set i [.row true l 0 s.1.length, .int .i64 k]))) L locs (sh.set i (s.1, k)) M g :=
 ⟨h.img.stamp hr hl hs, get_set h.m h.nL.1, get_set h.o h.nL.2, by simp [h.n], h.mar, h.q0, h.nL, h.nl⟩
theorem GI.mark (h : GI q Hx L locs sh M g) {p0 c0 : Nat} (hp : p0 < 120) (hc : c0 < 128) (e : ∀ p c, g' p c = (g p c || (decide (p0 = p) && decide (c = c0)))) : GI q (Hx.set 0 (.arr 105 15360 [setC M (p0 * 128 + c0) [.bool true]])) L locs sh (setC M (p0 * 128 + c0) [.bool true]) g' :=
 ⟨h.img.other h.nL.1.symm h.nl.1, get_self h.m, get_set h.o h.q0.symm, h.n, by rw [setC_one (List.getElem?_eq_some_iff.1 (h.mar p0 c0 hp hc)).1]; exact h.mar.next hp hc e, h.q0, h.nL, h.nl⟩
theorem GI.at (h : GI q Hx L locs sh M g) {i : Nat} (hi : i < 120) : ∃ l s rows, locs[i]? = some l ∧ sh[i]? = some s ∧ Hx[L]? = some (.arr 95 2 rows) ∧ rows[i]? = some [.row true l 0 s.1.length, .int .i64 s.2] ∧ Hx[l]? = some (.arr 5 1 s.1) := by
 have hn := h.n
 have hlen := h.img.len
 obtain ⟨rows, e1, e2, e3⟩ := h.img.row
 have hl : locs[i]? = some locs[i] := List.getElem?_eq_getElem (by omega)
 have hs : sh[i]? = some sh[i] := List.getElem?_eq_getElem (by omega)
 exact ⟨_, _, rows, hl, hs, e1, e3 i _ _ hl hs, h.img.byt i _ _ hl hs⟩
end
structure OI2 (H7 : Hp) (g : Nat → Nat → Bool) (sh : List Sheet) (j : Nat) (Hy : Hp) (v : AV) (rows : List (List AV)) (u : AV) : Prop where
 le : j ≤ 120
 low : ∀ (k : Nat) (o : VO), H7[k]? = some o → Hy[k]? = some o
 p : PV H7.length Hy 108 3 v rows
 r : PRows Hy rows (gatP g sh j)
 s : PV H7.length Hy 3 1 u (stmP sh j)
structure AI (H7 : Hp) (q : Nat) (w : VO) (g : Nat → Bool) (b : List (List AV)) (pg : Nat) (tgt : List (List AV)) (u : AV) (st : List (List AV)) (i : Nat) (Hz : Hp) (v : AV) (rows : List (List AV)) : Prop where
 low : ∀ (k : Nat) (o : VO), H7[k]? = some o → Hz[k]? = some o
 w' : Hz[q]? = some w
 p : PV H7.length Hz 108 3 v rows
 s : PV H7.length Hz 3 1 u st
 r : ∃ ps, PRows Hz rows ps ∧ ps ++ pcs g b pg i = tgt
theorem AI.skip {H7 Hz : Hp} {q pg i : Nat} {w : VO} {g : Nat → Bool} {b tgt st rows : List (List AV)} {u v : AV} (h : AI H7 q w g b pg tgt u st i Hz v rows) (hi : i < 128) (he : runEnd g i = i) : AI H7 q w g b pg tgt u st (i + 1) Hz v rows := by
 obtain ⟨ps, h1, h2⟩ := h.r
 exact ⟨h.low, h.w', h.p, h.s, ps, h1, by rw [← h2, pcs_next hi he]⟩
theorem AI.next {H7 Hz : Hp} {q pg i e L : Nat} {x : List AV} {g : Nat → Bool} {b tgt st rows : List (List AV)} {u v : AV} {o : VO} (h : AI H7 q (.arr 95 2 [x]) g b pg tgt u st i Hz v rows) (hi : i < 128) (he : runEnd g i = e) (hie : i < e) (hle : e ≤ b.length) (hb : Bs b) (hL : H7.length ≤ L) (hacc : (rows = [] ∧ Hz.length + 2 ≤ L) ∨ (rows ≠ [] ∧ Hz[L]? = some (.arr 108 3 rows))) :
 AI H7 q (.arr 95 2 [x]) g b pg tgt u st (e + 1) ((Hz ++ [VO.arr 5 1 ((b.drop i).take (e - i))] ++ [o]).set L .dead ++ [VO.arr 108 3 (rows ++ [[.int .i64 pg, .int .i64 i, .row false Hz.length 0 ((b.drop i).take (e - i)).length]])]) (.row false (Hz.length + 2) 0 (rows.length + 1)) (rows ++ [[.int .i64 pg, .int .i64 i, .row false Hz.length 0 ((b.drop i).take (e - i)).length]]) := by
 obtain ⟨ps, h1, h2⟩ := h.r
 have hb2 : Bs ((b.drop i).take (e - i)) := fun q hq => hb q (List.mem_of_mem_drop (List.mem_of_mem_take hq))
 have hacc2 : (rows = [] ∧ Hz.length + 2 ≤ L) ∨ (rows ≠ [] ∧ (Hz ++ [VO.arr 5 1 ((b.drop i).take (e - i))] ++ [o])[L]? = some (.arr 108 3 rows)) := hacc.imp id fun h => ⟨h.1, get_app (get_app h.2)⟩
 have kp : ∀ (k : Nat) (o2 : VO), (Hz ++ [VO.arr 5 1 ((b.drop i).take (e - i))] ++ [o])[k]? = some o2 → (∀ r, o2 ≠ .arr 108 3 r) → ((Hz ++ [VO.arr 5 1 ((b.drop i).take (e - i))] ++ [o]).set L .dead ++ [VO.arr 108 3 (rows ++ [[.int .i64 pg, .int .i64 i, .row false Hz.length 0 ((b.drop i).take (e - i)).length]])])[k]? = some o2 := fun k o2 hk hn => get_app (kill_keep hacc2 (by simp) hk hn)
 have hn : ∀ (T : TypeId) (sz : Nat) (z r : List (List AV)), T ≠ 108 → VO.arr T sz z ≠ .arr 108 3 r := fun T sz z r hT e => by cases e; exact hT rfl
 have hbyt : ((Hz ++ [VO.arr 5 1 ((b.drop i).take (e - i))] ++ [o]))[Hz.length]? = some (.arr 5 1 ((b.drop i).take (e - i))) := get_app get_last
 refine ⟨fun k o2 hk => ?_, kp _ _ (get_app (get_app h.w')) (fun r => hn _ _ _ r (by decide)), ?_, h.s.keep fun L2 _ h3 => kp _ _ (get_app (get_app h3)) (fun r => hn _ _ _ r (by decide)), ps ++ [[.int .i64 pg, .int .i64 i, .list .loose ((b.drop i).take (e - i))]], (h1.keep fun l bs hl => kp l _ (get_app (get_app hl)) (fun r => hn _ _ _ r (by decide))).snoc (kp _ _ hbyt (fun r => hn _ _ _ r (by decide))) rfl hb2, ?_⟩
 · have hk2 := (List.getElem?_eq_some_iff.1 hk).1
   exact get_app (get_set (get_app (get_app (h.low k o2 hk))) (by omega))
 · have hz : Hz.length + 2 = ((Hz ++ [VO.arr 5 1 ((b.drop i).take (e - i))] ++ [o]).set L .dead).length := by simp
   have h7 : H7.length ≤ Hz.length := by
    by_cases h0 : H7.length = 0
    · omega
    · have := (List.getElem?_eq_some_iff.1 (h.low (H7.length - 1) _ (List.getElem?_eq_getElem (by omega)))).1
      omega
   refine PV.mk' (by omega) ?_
   rw [hz]
   exact get_last
 · rw [List.append_assoc, ← h2, pcs_run hi he hie]
   rfl
theorem OI2.stamp {H7 Hz : Hp} {q pg i L : Nat} {w : VO} {g : Nat → Nat → Bool} {sh : List Sheet} {s : Sheet} {j : Nat} {rows : List (List AV)} {v : AV} {b : List (List AV)} {u : AV} (h : AI H7 q w (g j) b pg (gatP g sh (j + 1)) u (stmP sh j) i Hz v rows) (hi : ¬ i < 128) (hj : j < 120) (hs : sh[j]? = some s) (h0 : 0 < s.2) (hL : H7.length ≤ L) (hacc : (stmP sh j = [] ∧ Hz.length ≤ L) ∨ (stmP sh j ≠ [] ∧ Hz[L]? = some (.arr 3 1 (stmP sh j)))) :
 OI2 H7 g sh (j + 1) (Hz.set L .dead ++ [VO.arr 3 1 (stmP sh j ++ [[.int .i64 s.2]])]) v rows (.row false Hz.length 0 ((stmP sh j).length + 1)) := by
 obtain ⟨ps, h1, h2⟩ := h.r
 rw [pcs_stop hi, List.append_nil] at h2
 subst h2
 have hn : ∀ (T : TypeId) (sz : Nat) (z r : List (List AV)), T ≠ 3 → VO.arr T sz z ≠ .arr 3 1 r := fun T sz z r hT e => by cases e; exact hT rfl
 have kp : ∀ (k : Nat) (o2 : VO), Hz[k]? = some o2 → (∀ r, o2 ≠ .arr 3 1 r) → (Hz.set L .dead ++ [VO.arr 3 1 (stmP sh j ++ [[.int .i64 s.2]])])[k]? = some o2 := fun k o2 hk hn => get_app (kill_keep hacc (Nat.le_refl _) hk hn)
 refine ⟨hj, fun k o2 hk => ?_, h.p.keep fun L2 _ h3 => kp _ _ h3 (fun r => hn _ _ _ r (by decide)), h1.keep fun l bs hl => kp l _ hl (fun r => hn _ _ _ r (by decide)), ?_⟩
 · have hk2 := (List.getElem?_eq_some_iff.1 hk).1
   exact get_app (get_set (h.low k o2 hk) (by omega))
 · have hz : Hz.length = (Hz.set L .dead).length := by simp
   have h7 : H7.length ≤ Hz.length := by
    by_cases h0 : H7.length = 0
    · omega
    · have := (List.getElem?_eq_some_iff.1 (h.low (H7.length - 1) _ (List.getElem?_eq_getElem (by omega)))).1
      omega
   rw [stmP_pos hs h0]
   refine PV.mk' h7 ?_
   rw [hz]
   exact get_last
theorem OI2.none {H7 Hz : Hp} {q pg i : Nat} {w : VO} {g : Nat → Nat → Bool} {sh : List Sheet} {s : Sheet} {j : Nat} {rows : List (List AV)} {v : AV} {b : List (List AV)} {u : AV} (h : AI H7 q w (g j) b pg (gatP g sh (j + 1)) u (stmP sh j) i Hz v rows) (hi : ¬ i < 128) (hj : j < 120) (hs : sh[j]? = some s) (h0 : ¬ 0 < s.2) : OI2 H7 g sh (j + 1) Hz v rows u := by
 obtain ⟨ps, h1, h2⟩ := h.r
 rw [pcs_stop hi, List.append_nil] at h2
 subst h2
 exact ⟨hj, h.low, h.p, h1, by rw [stmP_no hs h0]; exact h.s⟩
theorem sub_rows {H : Hp} {l i e T sz : Nat} {t : Bool} {b : List (List AV)} (h : H[l]? = some (.arr T sz b)) (hi : i ≤ e) (he : e ≤ b.length) : rowsOf H (.row t l i (e - i)) = some ((b.drop i).take (e - i)) := by
 simp only [rowsOf, h]
 rw [if_pos (by omega)]
set_option maxHeartbeats 8000000 in
theorem bCloneR (G : Glob) (H : Hp) (b : Bool) (l i m : Nat) (bs : List (List AV)) (hsrc : rowsOf H (.row b l i m) = some bs) (hne : bs ≠ []) (hlen : bs.length ≤ 1000) (hb : Bs bs) : XS Tryz.prog G 64 [.row b l i m] H (fun r H' => r = .row false H.length 0 bs.length ∧ H' = H ++ [VO.arr 5 1 bs]) := by
 refine xs_body (fun _ => .iso) Tryz.func64 rfl ?_
 refine vc_norm (env' := [_, _, _, _, _, _, _, _]) (H' := _) rfl rfl ?_
 refine vs (wr ?_)
 refine wN rfl rfl rfl (v8 rfl ?_)
 refine we rfl (vs (vs (wr ?_)))
 iterate 2 refine wN rfl rfl rfl (v8 rfl ?_)
 refine we rfl ?_
 refine vc_cond rfl (fun hc4 => ?_) (fun hc4 => ?_)
 ·
  cases hc4
 ·
  refine vc_skip (n_then (vs (wr ?_)))
  iterate 2 refine wN rfl rfl rfl (v8 rfl ?_)
  refine w_opH (v := .row false H.length 0 bs.length) (env' := _) (H2 := H ++ [VO.arr 5 1 bs]) rfl (g_clone (H := H) (x := .row b l i m) (rows := bs) (e := 5) el68 Tryz.underlying68 rfl zc5 by5 hsrc rfl (by decide) (by decide) (bytes_len hb) rfl hne (bytes_frz hb) (by omega)) rfl (rfl) (fun _ h => h) (v8 rfl ?_)
  refine wN rfl rfl rfl (v8 rfl ?_)
  refine we rfl (vc_ret (r_fn rfl ?_))
  exact ⟨rfl, rfl⟩
set_option maxHeartbeats 8000000 in
theorem bGather (G : Glob) (x : AV) (l : List Rc) (hx : Recs x l) (hl : l.length ≤ 1000000) (a : Int) : Vi.Fn Tryz.prog G 27 [x, .int .i64 a] (gatherR l a) := by
 have hL := hx.isL
 have hxl : (lrows x).length = l.length := by rw [hx.rows]; simp
 refine fn_body (fun o => match o.op with | .call ⟨.value (.func f), _, _⟩ => if f = 59 ∨ f = 64 then .shr else .iso | .call ⟨.builtin .append, _, _⟩ => .shr | .buildSlice t _ _ => if t = 52 then .shr else .iso | _ => .iso) Tryz.func27 rfl ?_
 refine vc_norm (env' := (_ :: _ :: _ :: _ :: _ :: _ :: _ :: _ :: _ :: _ :: _ :: _ :: _ :: _ :: _ :: _ :: _ :: _ :: _ :: _ :: _ :: _ :: _ :: _ :: _ :: _ :: _ :: _ :: _ :: _ :: _ :: _ :: _ :: _ :: _ :: _ :: _ :: _ :: _ :: _ :: _ :: _ :: _ :: _ :: _ :: _ :: _ :: _ :: _ :: _ :: _ :: _ :: _ :: _ :: _ :: _ :: _ :: _ :: _ :: _ :: _ :: _ :: _ :: _ :: _ :: _ :: _ :: _ :: _ :: _ :: _ :: _ :: _ :: _ :: _ :: _ :: _ :: _ :: _ :: _ :: _ :: _ :: _ :: _ :: _ :: _ :: _ :: _ :: _ :: _ :: _ :: _ :: _ :: _ :: _ :: _ :: _ :: _ :: _ :: _ :: _ :: _ :: _ :: _ :: _ :: _ :: _ :: _ :: _ :: _ :: _ :: _ :: _ :: _ :: _ :: _ :: _ :: _ :: _ :: _ :: _ :: _ :: _ :: _ :: _ :: _ :: _ :: _ :: _ :: _ :: _ :: _ :: [])) (H' := []) rfl rfl ?_
 refine vs (wr ?_)
 iterate 3 refine wN rfl rfl rfl (v132 rfl ?_)
 refine we rfl (vs (vc_block (vs (wr ?_))))
 refine wN rfl rfl rfl (v132 rfl ?_)
 refine w_callI (env' := _) rfl rfl rfl (by kernel_rfl) rfl (by repeat' first | exact IsL.lend ‹_› | exact IsL.lend0 ‹_› | refine mapL_cons ?_ ?_ | refine lend_agg ?_ | rfl) (sSound G x l hx hl) rfl (v132 rfl ?_)
 iterate 2 refine wN rfl rfl rfl (v132 rfl ?_)
 refine we rfl ?_
 refine vc_cond rfl (fun hc18 => ?_) (fun hc18 => ?_)
 ·
  have hs : soundR l = false := by simpa using hc18
  refine vs (wr ?_)
  iterate 3 refine wN rfl rfl rfl (v132 rfl ?_)
  refine we rfl (vc_ret (r_block (r_then (r_fn rfl ?_))))
  rw [gatherR, if_neg (by rw [hs]; decide)]
  rfl
 ·
  have hs : soundR l = true := by simpa using hc18
  refine vs (wr ?_)
  iterate 3 refine wN rfl rfl rfl (v132 rfl ?_)
  refine w_split 25 rfl (fun hg25 => ?_) (fun hg25 => ?_)
  ·
   have hneg : a < 0 := of_decide_eq_true hg25
   refine v132 rfl ?_
   iterate 4 refine wS (wanted_f 25 (by kernel_rfl) rfl) (v132 rfl ?_)
   iterate 2 refine wN rfl rfl rfl (v132 rfl ?_)
   refine we rfl ?_
   refine vc_true rfl ?_
   refine vs (wr ?_)
   iterate 3 refine wN rfl rfl rfl (v132 rfl ?_)
   refine we rfl (vc_ret (r_block (r_then (r_fn rfl ?_))))
   rw [gatherR, if_pos hs, if_pos (.inl hneg)]
   rfl
  ·
   have hpos : 0 ≤ a := by have := of_decide_eq_false hg25; omega
   refine v132 rfl ?_
   iterate 2 refine wN (wanted_t 25 (by kernel_rfl) rfl) rfl rfl (v132 rfl ?_)
   first | refine wN (wanted_t 25 (by kernel_rfl) rfl) rfl rfl (v132 rfl ?_) | refine x_len (wanted_t 25 (by kernel_rfl) rfl) rfl ‹_› Tryz.underlying43 rfl (v132 rfl ?_)
   refine wN (wanted_t 25 (by kernel_rfl) rfl) rfl rfl (v132 rfl ?_)
   iterate 2 refine wN rfl rfl rfl (v132 rfl ?_)
   refine we rfl ?_
   refine vc_cond rfl (fun hc22 => ?_) (fun hc22 => ?_)
   ·
    have hgt : a > l.length := by have := of_decide_eq_true hc22; rw [hxl] at this; omega
    refine vs (wr ?_)
    iterate 3 refine wN rfl rfl rfl (v132 rfl ?_)
    refine we rfl (vc_ret (r_block (r_then (r_fn rfl ?_))))
    rw [gatherR, if_pos hs, if_pos (.inr hgt)]
    rfl
   ·
    refine vc_skip (n_block (n_then (vs (wr ?_))))
    refine w_opH (v := .ptr 0 0 0) (env' := _) (H2 := [VO.arr 105 m0.length [m0]]) rfl (g_alloc zr105 rfl rfl) rfl (rfl) (fun _ h => h) (v132 rfl ?_)
    rw [m0_len]
    refine v132 rfl ?_
    refine we rfl (vs (wr ?_))
    refine w_callS rfl rfl rfl (by kernel_rfl) rfl (bBlank G _) ?_
    rintro _ H6 ⟨L, locs, rfl, hI, hLl, hlocs, hpre⟩
    have h60 := hpre 0 _ rfl
    refine v132 rfl ?_
    refine w_opH (v := .ptr H6.length 0 0) (env' := _) (H2 := (H6 ++ [VO.arr 42 2 [[.int .i64 0, .nils]]])) rfl (g_alloc z42 rfl rfl) rfl (rfl) (fun _ h => h) (v132 rfl ?_)
    refine w_op0N (H2 := (H6 ++ [VO.arr 42 2 [[.int .i64 0, .row false L 0 120]]])) rfl (g_store get_last rfl rfl sz42 ⟨rfl, by simp, by decide⟩) (set_last) (fun _ h => h) ?_
    refine we rfl (vs (vs ?_))
    have hle : a ≤ l.length := by have := of_decide_eq_false hc22; rw [hxl] at this; omega
    have hR := sound_in hx hs
    have hlcl : ∀ z ∈ locs, z < H6.length := fun z hz => by
     obtain ⟨j, hj⟩ := List.mem_iff_getElem?.1 hz
     have hjs : j < zeroSh.length := by have := (List.getElem?_eq_some_iff.1 hj).1; have := hI.len; omega
     exact lt_of (hI.byt j _ _ hj (List.getElem?_eq_getElem hjs))
    have hLH : L < H6.length := by obtain ⟨r6, e6, _, _⟩ := hI.row; exact lt_of e6
    have hG0 : GI H6.length (H6 ++ [VO.arr 42 2 [[.int .i64 0, .row false L 0 120]]]) L locs (fwd l zeroSh a.toNat 0) m0 (mk l a.toNat 0) := ⟨hI.app, get_app h60, get_last, List.length_replicate .., m0_mk fun _ _ => rfl, by have := lt_of h60; omega, ⟨by simp at hLl; omega, by omega⟩, ⟨fun h => by have := hlocs _ h; simp at this, fun h => by have := hlcl _ h; omega⟩⟩
    refine wr ?_
    iterate 2 refine wN rfl rfl rfl (v132 rfl ?_)
    refine we rfl (vc_block ?_)
    refine vc_loopX (α := { z : Nat × Hp × List AV // a.toNat ≤ z.1 ∧ z.1 ≤ l.length ∧ GI H6.length z.2.1 L locs (fwd l zeroSh a.toNat (z.1 - a.toNat)) z.2.2 (mk l a.toNat (z.1 - a.toNat)) ∧ ShOk (fwd l zeroSh a.toNat (z.1 - a.toNat)) }) (fun z => (rnone 9 ++ ([some (.int .i64 (z.1.1 : Nat)), some .undef, some .undef] ++ (rnone 21 ++ (rundef 48 ++ (rnone 51)))))) (fun z => z.1.2.1) (fun z => l.length - z.1.1) ⟨(a.toNat, _, m0), Nat.le_refl _, by show a.toNat ≤ l.length; omega, by show GI _ _ _ _ (fwd l zeroSh a.toNat (a.toNat - a.toNat)) _ (mk l a.toNat (a.toNat - a.toNat)); rw [Nat.sub_self]; exact hG0, by show ShOk (fwd l zeroSh a.toNat (a.toNat - a.toNat)); rw [Nat.sub_self]; exact zeroSh_ok⟩ (by repeat' first | exact trivial | refine ⟨.inr rfl, ?_⟩ | refine ⟨.inl rfl, ?_⟩ | refine ⟨.inl (congrArg (AV.int .i64) (show ((a.toNat : Nat) : Int) = a by omega)), ?_⟩ | fail) rfl ?_
    rintro ⟨⟨i, Hx, M⟩, hil, hiu, hF, hSx⟩ Y0 hY0
    refine vc_norm (env' := (_ :: _ :: _ :: _ :: _ :: _ :: _ :: _ :: _ :: (.int .i64 (i : Int)) :: _ :: _ :: _ :: _ :: _ :: _ :: _ :: _ :: _ :: _ :: _ :: _ :: _ :: _ :: _ :: _ :: _ :: _ :: _ :: _ :: _ :: _ :: _ :: _ :: _ :: _ :: _ :: _ :: _ :: _ :: _ :: _ :: _ :: _ :: _ :: _ :: _ :: _ :: _ :: _ :: _ :: _ :: _ :: _ :: _ :: _ :: _ :: _ :: _ :: _ :: _ :: _ :: _ :: _ :: _ :: _ :: _ :: _ :: _ :: _ :: _ :: _ :: _ :: _ :: _ :: _ :: _ :: _ :: _ :: _ :: _ :: _ :: _ :: _ :: _ :: _ :: _ :: _ :: _ :: _ :: _ :: _ :: _ :: _ :: _ :: _ :: _ :: _ :: _ :: _ :: _ :: _ :: _ :: _ :: _ :: _ :: _ :: _ :: _ :: _ :: _ :: _ :: _ :: _ :: _ :: _ :: _ :: _ :: _ :: _ :: _ :: _ :: _ :: _ :: _ :: _ :: _ :: _ :: _ :: _ :: _ :: _ :: [])) (H' := Hx) rfl rfl ?_
    replace hil : a.toNat ≤ i := hil
    replace hiu : i ≤ l.length := hiu
    replace hF : GI H6.length Hx L locs (fwd l zeroSh a.toNat (i - a.toNat)) M (mk l a.toNat (i - a.toNat)) := hF
    replace hSx : ShOk (fwd l zeroSh a.toNat (i - a.toNat)) := hSx
    refine vs (vs (wr ?_))
    iterate 2 refine wN rfl rfl rfl (v132 rfl ?_)
    first | refine wN rfl rfl rfl (v132 rfl ?_) | refine x_len rfl rfl ‹_› Tryz.underlying43 rfl (v132 rfl ?_)
    refine wN rfl rfl rfl (v132 rfl ?_)
    refine we rfl ?_
    refine vc_cond rfl (fun hc36 => ?_) (fun hc36 => ?_)
    ·
     have hlt : i < l.length := by have := of_decide_eq_true hc36; omega
     obtain ⟨r, hr⟩ : ∃ r, l[i]? = some r := ⟨_, List.getElem?_eq_getElem hlt⟩
     have hri := hx.at hr
     have hrm := List.mem_of_getElem? hr
     have hOk := hx.ok r hrm
     have hLa := hOk.aft.1
     have hIn := (hR r hrm).2
     have hp0 := hIn.p0
     have hp1 := hIn.p1
     have hg0 := hIn.g0
     have hg1 := hIn.g1
     have hna : r.na = (lrows r.aft).length := rfl
     have hri2 : l[a.toNat + (i - a.toNat)]? = some r := by rw [show a.toNat + (i - a.toNat) = i by omega]; exact hr
     have hi1 : i + 1 - a.toNat = (i - a.toNat) + 1 := by omega
     have hst : stepR l (fwd l zeroSh a.toNat (i - a.toNat)) i = layR (fwd l zeroSh a.toNat (i - a.toNat)) r i := by simp only [stepR, hr]
     have hsn : fwd l zeroSh a.toNat (i + 1 - a.toNat) = layR (fwd l zeroSh a.toNat (i - a.toNat)) r i := by
      rw [hi1, fwd_succ, show a.toNat + (i - a.toNat) = i by omega, hst]
     refine vc_skip (n_then (vs (vc_block (vs (wr ?_)))))
     iterate 2 refine wN rfl rfl rfl (v132 rfl ?_)
     first | refine wN (v := .iptr _ [_, _, _, _, _, _, _, _, _, _]) rfl rfl rfl (v132 rfl ?_) | (refine x_index rfl rfl ‹_› rfl el43 (by omega) ‹_› rfl (fun bo => ?_); refine v132 rfl ?_)
     refine wN (v := .agg r.row) rfl (rfl) rfl (v132 rfl ?_)
     refine w_opH (v := .ptr Hx.length 0 0) (env' := _) (H2 := (Hx ++ [VO.arr 93 10 [[.int .i64 0, .int .i64 0, .int .i64 0, .int .i64 0, .nils, .nils, .int .i64 0, .int .i64 0, .str ⟨#[]⟩, .nils]]])) rfl (g_alloc zr93b rfl rfl) rfl (rfl) (fun _ h => h) (v132 rfl ?_)
     refine w_op0N (H2 := (Hx ++ [VO.arr 93 10 [r.row]])) rfl (g_store get_last rfl rfl sz93 ⟨rfl, by simp [Rc.row], by decide⟩) (set_last) (fun _ h => h) ?_
     refine we rfl (vs (wr ?_))
     refine wN (v := .agg r.row) rfl (g_load get_last rfl rfl) rfl (v132 rfl ?_)
     refine w_callI (env' := _) rfl rfl rfl (by kernel_rfl) rfl (mapL_cons hOk.lend rfl) (sLays G r hOk) rfl (v132 rfl ?_)
     refine we rfl ?_
     refine vc_cond rfl (fun hc44 => ?_) (fun hc44 => ?_)
     ·
      refine vs ?_
      have hly : laysB r = true := hc44
      have hI2 := hF.app [VO.arr 93 10 [r.row]]
      obtain ⟨lp, s, prow, hlp, hsp, hpr, hprp, hby⟩ := hI2.at (i := r.page.toNat) (by omega)
      have h128 := (hSx s (List.mem_of_getElem? hsp)).1
      refine w_regionD (by kernel_rfl) ?_
      refine dN (v := .ptr H6.length 0 1) rfl rfl rfl (d132 rfl ?_)
      refine dN (v := .row false L 0 120) rfl (g_load hI2.o rfl rfl) rfl (d132 rfl ?_)
      refine dN (v := .ptr Hx.length 0 2) rfl rfl rfl (d132 rfl ?_)
      refine dN (v := .int .i64 r.page) rfl (g_load get_last rfl rfl) rfl (d132 rfl ?_)
      refine dN (v := .ptr L r.page.toNat 0) rfl (g_index0 el40 hpr (by omega) (by omega)) rfl (d132 rfl ?_)
      refine dN rfl rfl rfl (d132 rfl ?_)
      refine dN (v := .row true lp 0 s.1.length) rfl (g_load hpr hprp rfl) rfl (d132 rfl ?_)
      refine dN (v := .ptr Hx.length 0 3) rfl rfl rfl (d132 rfl ?_)
      refine dN (v := .int .i64 r.pos) rfl (g_load get_last rfl rfl) rfl (d132 rfl ?_)
      refine dN (v := .row true lp r.pos.toNat (s.1.length - r.pos.toNat)) rfl (g_slice0 Tryz.underlying68 sz5 hby (by omega) (by omega)) rfl (d132 rfl ?_)
      refine dN (v := .ptr Hx.length 0 5) rfl rfl rfl (d132 rfl ?_)
      refine dN (v := r.aft) rfl (g_load get_last rfl rfl) rfl (d132 rfl ?_)
      refine d_opH (v := .int .i64 ((lrows r.aft).length : Nat)) (env' := _) (H2 := ((Hx ++ [VO.arr 93 10 [r.row]]).set lp (VO.arr 5 1 (lay s.1 r.pos.toNat (lrows r.aft))))) rfl (g_copyL (b := true) (x := r.aft) (rows' := lrows r.aft) (i := r.pos.toNat) (m := s.1.length - r.pos.toNat) el68 hby hOk.aft.1.src (bytes_len hOk.aft.2.2) (by decide) hOk.aft.1.notStr (by omega) (by omega)) (.inl rfl) rfl (rfl) (fun _ h => h) (d132 rfl ?_)
      refine d_end rfl (vs ?_)
      have hI3 := hI2.byte (b := lay s.1 r.pos.toNat (lrows r.aft)) hlp hsp (lay_length (by omega))
      have hpr2 := get_set (o' := (VO.arr 5 1 (lay s.1 r.pos.toNat (lrows r.aft)))) hpr (hI2.img.ne lp (List.mem_of_getElem? hlp))
      have hlx : lp ≠ Hx.length := fun e => by rw [e] at hby; rw [get_last] at hby; cases hby
      have hLx : L ≠ Hx.length := fun e => by rw [e] at hpr; rw [get_last] at hpr; cases hpr
      have hrb3 : ((Hx ++ [VO.arr 93 10 [r.row]]).set lp (VO.arr 5 1 (lay s.1 r.pos.toNat (lrows r.aft))))[Hx.length]? = some (VO.arr 93 10 [r.row]) := get_set get_last hlx
      refine wr ?_
      refine wN (v := .ptr H6.length 0 1) rfl rfl rfl (v132 rfl ?_)
      refine wN (v := .row false L 0 120) rfl (g_load hI3.o rfl rfl) rfl (v132 rfl ?_)
      refine wN (v := .ptr Hx.length 0 2) rfl rfl rfl (v132 rfl ?_)
      refine wN (v := .int .i64 r.page) rfl (g_load hrb3 rfl rfl) rfl (v132 rfl ?_)
      refine wN rfl rfl rfl (v132 rfl ?_)
      refine wN (v := .int .i64 ((i : Int) + 1)) rfl (int_eq (i64_small (by omega) (by omega))) rfl (v132 rfl ?_)
      refine wN (v := .ptr L r.page.toNat 0) rfl (g_index0 el40 hpr2 (by omega) (by omega)) rfl (v132 rfl ?_)
      refine wN rfl rfl rfl (v132 rfl ?_)
      refine w_op0N (H2 := (((Hx ++ [VO.arr 93 10 [r.row]]).set lp (VO.arr 5 1 (lay s.1 r.pos.toNat (lrows r.aft)))).set L (VO.arr 95 2 (prow.set r.page.toNat [.row true lp 0 s.1.length, .int .i64 ((i : Int) + 1)])))) rfl (g_store hpr2 hprp rfl sz3 ⟨rfl, by simp, by decide⟩) (rfl) (fun _ h => h) ?_
      refine we rfl (vs ?_)
      have hrb4 : (((Hx ++ [VO.arr 93 10 [r.row]]).set lp (VO.arr 5 1 (lay s.1 r.pos.toNat (lrows r.aft)))).set L (VO.arr 95 2 (prow.set r.page.toNat [.row true lp 0 s.1.length, .int .i64 ((i : Int) + 1)])))[Hx.length]? = some (VO.arr 93 10 [r.row]) := get_set hrb3 hLx
      have hI4 : GI H6.length (((Hx ++ [VO.arr 93 10 [r.row]]).set lp (VO.arr 5 1 (lay s.1 r.pos.toNat (lrows r.aft)))).set L (VO.arr 95 2 (prow.set r.page.toNat [.row true lp 0 s.1.length, .int .i64 ((i : Int) + 1)]))) L locs (fwd l zeroSh a.toNat (i + 1 - a.toNat)) M (mk l a.toNat (i - a.toNat)) := by
       rw [hsn, layR_set hly hsp]
       have h9 := hI3.stamp (s := (lay s.1 r.pos.toNat (lrows r.aft), s.2)) (k := (i : Int) + 1) hpr2 hlp (List.getElem?_set_self (List.getElem?_eq_some_iff.1 hsp).1)
       simp only [lay_length (show r.pos.toNat + (lrows r.aft).length ≤ s.1.length by omega)] at h9
       exact h9
      refine wr ?_
      refine wN (v := .ptr Hx.length 0 5) rfl rfl rfl (v132 rfl ?_)
      refine wN (v := r.aft) rfl (g_load hrb4 rfl rfl) rfl (v132 rfl ?_)
      first | refine wN rfl rfl rfl (v132 rfl ?_) | refine x_len rfl rfl ‹_› Tryz.underlying68 rfl (v132 rfl ?_)
      refine wN rfl rfl rfl (v132 rfl ?_)
      refine we rfl (vc_block ?_)
      refine vc_loopX (α := { z : Nat × Hp × List AV // z.1 ≤ (lrows r.aft).length ∧ GI H6.length z.2.1 L locs (fwd l zeroSh a.toNat (i + 1 - a.toNat)) z.2.2 (mkK l a.toNat (i - a.toNat) r z.1) ∧ z.2.1[Hx.length]? = some (VO.arr 93 10 [r.row]) }) (fun z => (rnone 11 ++ ([some .undef] ++ (rnone 57 ++ ([some (.int .i64 (z.1.1 : Nat))] ++ (rundef 11 ++ (rnone 51))))))) (fun z => z.1.2.1) (fun z => (lrows r.aft).length - z.1.1) ⟨(0, _, M), Nat.zero_le _, hI4.congr fun p c => mkK_zero.symm, hrb4⟩ (by repeat' first | exact trivial | refine ⟨.inr rfl, ?_⟩ | refine ⟨.inl rfl, ?_⟩ | fail) rfl ?_
      rintro ⟨⟨k, Hy, My⟩, hkl, hK, hb⟩ Y1 hY1
      refine vc_norm (env' := (_ :: _ :: _ :: _ :: _ :: _ :: _ :: _ :: _ :: _ :: _ :: _ :: _ :: _ :: _ :: _ :: _ :: _ :: _ :: _ :: _ :: _ :: _ :: _ :: _ :: _ :: _ :: _ :: _ :: _ :: _ :: _ :: _ :: _ :: _ :: _ :: _ :: _ :: _ :: _ :: _ :: _ :: _ :: _ :: _ :: _ :: _ :: _ :: _ :: _ :: _ :: _ :: _ :: _ :: _ :: _ :: _ :: _ :: _ :: _ :: _ :: _ :: _ :: _ :: _ :: _ :: _ :: _ :: _ :: (.int .i64 (k : Int)) :: _ :: _ :: _ :: _ :: _ :: _ :: _ :: _ :: _ :: _ :: _ :: _ :: _ :: _ :: _ :: _ :: _ :: _ :: _ :: _ :: _ :: _ :: _ :: _ :: _ :: _ :: _ :: _ :: _ :: _ :: _ :: _ :: _ :: _ :: _ :: _ :: _ :: _ :: _ :: _ :: _ :: _ :: _ :: _ :: _ :: _ :: _ :: _ :: _ :: _ :: _ :: _ :: _ :: _ :: _ :: _ :: _ :: _ :: _ :: _ :: _ :: _ :: [])) (H' := Hy) rfl rfl ?_
      replace hkl : k ≤ (lrows r.aft).length := hkl
      replace hK : GI H6.length Hy L locs (fwd l zeroSh a.toNat (i + 1 - a.toNat)) My (mkK l a.toNat (i - a.toNat) r k) := hK
      replace hb : Hy[Hx.length]? = some (VO.arr 93 10 [r.row]) := hb
      refine vs (wr ?_)
      refine wN rfl rfl rfl (v132 rfl ?_)
      refine we rfl (vs ?_)
      refine vc_cond rfl (fun hc70 => ?_) (fun hc70 => ?_)
      ·
       have hlk : k < (lrows r.aft).length := by have := of_decide_eq_true hc70; omega
       refine vc_skip (n_then (vs (vc_block (vs (wr ?_)))))
       iterate 2 refine wN rfl rfl rfl (v132 rfl ?_)
       refine we rfl ?_
       have hMl : (r.page.toNat * 128 + (r.pos.toNat + k)) + 1 ≤ My.length := (List.getElem?_eq_some_iff.1 (hK.mar r.page.toNat (r.pos.toNat + k) (by omega) (by omega))).1
       refine w_regionD (by kernel_rfl) ?_
       refine dN (v := .ptr Hx.length 0 2) rfl rfl rfl (d132 rfl ?_)
       refine dN (v := .int .i64 r.page) rfl (g_load hb rfl rfl) rfl (d132 rfl ?_)
       refine dN (v := .ptr Hx.length 0 3) rfl rfl rfl (d132 rfl ?_)
       refine dN (v := .int .i64 r.pos) rfl (g_load hb rfl rfl) rfl (d132 rfl ?_)
       refine dN rfl rfl rfl (d132 rfl ?_)
       refine dN (v := .int .i64 (r.pos + (k : Int))) rfl (int_eq (i64_small (by omega) (by omega))) rfl (d132 rfl ?_)
       refine dN (v := .ptr 0 0 (0 + r.page.toNat * 128)) rfl (g_indexA el105 hg0 hg1) rfl (d132 rfl ?_)
       refine dN (v := .ptr 0 0 (r.page.toNat * 128 + (r.pos.toNat + k))) rfl ((by have h9 := g_indexA (H := Hy) (l := 0) (i := 0) (k := 0 + r.page.toNat * 128) (kk := .i64) el104 (show 0 ≤ r.pos + (k : Int) by omega) (by omega); rw [show 0 + r.page.toNat * 128 + (r.pos + (k : Int)).toNat * 1 = r.page.toNat * 128 + (r.pos.toNat + k) by omega] at h9; exact h9)) rfl (d132 rfl ?_)
       refine d_op0 (H2 := (Hy.set 0 (VO.arr 105 15360 [setC My (r.page.toNat * 128 + (r.pos.toNat + k)) [.bool true]]))) rfl (g_store hK.m rfl rfl sz4 ⟨rfl, hMl, by decide⟩) (.inl rfl) (rfl) (fun _ h => h) ?_
       refine d_endB rfl (n_then (wr ?_))
       iterate 2 refine wN rfl rfl rfl (v132 rfl ?_)
       refine we rfl ?_
       refine hY1 ⟨(k + 1, _, _), hlk, hK.mark (by omega) (by omega) fun p c => mkK_next, get_set hb (by have := lt_of hF.m; omega)⟩ (by simp only; omega) _ _ ?_ rfl
       repeat' first | exact trivial | refine ⟨.inr rfl, ?_⟩ | refine ⟨.inl rfl, ?_⟩ | refine ⟨.inl ?_, ?_⟩ | fail
       all_goals first | exact (int_succ (by omega)).symm
      ·
       have hgk : k = (lrows r.aft).length := by have := of_decide_eq_false hc70; omega
       subst hgk
       refine vc_exit (x_then (x_then (x_same (n_block (n_then (wr ?_))))))
       iterate 3 refine wN rfl rfl rfl (v132 rfl ?_)
       refine we rfl ?_
       refine hY0 ⟨(i + 1, Hy, My), by show a.toNat ≤ i + 1; omega, hlt, by show GI _ _ _ _ _ _ (mk l a.toNat (i + 1 - a.toNat)); exact hK.congr fun p c => by rw [hi1]; exact mkK_full hri2 hly, by show ShOk (fwd l zeroSh a.toNat (i + 1 - a.toNat)); rw [hsn]; exact layR_ok hSx hOk hIn⟩ (by simp only; omega) _ _ ?_ rfl
       repeat' first | exact trivial | refine ⟨.inr rfl, ?_⟩ | refine ⟨.inl rfl, ?_⟩ | refine ⟨.inl ?_, ?_⟩ | fail
       all_goals first | exact (int_succ (by omega)).symm
     ·
      have hly : laysB r = false := hc44
      refine vc_skip (n_block (n_then (wr ?_)))
      iterate 3 refine wN rfl rfl rfl (v132 rfl ?_)
      refine we rfl ?_
      refine hY0 ⟨(i + 1, _, M), by show a.toNat ≤ i + 1; omega, hlt, by show GI _ _ _ _ (fwd l zeroSh a.toNat (i + 1 - a.toNat)) _ (mk l a.toNat (i + 1 - a.toNat)); rw [hsn, layR_no hly]; exact (hF.app [VO.arr 93 10 [r.row]]).congr fun p c => by rw [hi1]; exact (mk_no hri2 hly).symm, by show ShOk (fwd l zeroSh a.toNat (i + 1 - a.toNat)); rw [hsn]; exact layR_ok hSx hOk hIn⟩ (by simp only; omega) _ _ ?_ rfl
      repeat' first | exact trivial | refine ⟨.inr rfl, ?_⟩ | refine ⟨.inl rfl, ?_⟩ | refine ⟨.inl ?_, ?_⟩ | fail
      all_goals first | exact (int_succ (by omega)).symm
    ·
     have hge : l.length ≤ i := by have := of_decide_eq_false hc36; omega
     have hii : i = l.length := by omega
     subst hii
     have hG := hF
     generalize hH7 : Hx = H7 at *
     refine vc_exit (x_then (x_then (x_same (n_then (vs (wr ?_))))))
     refine wN rfl rfl rfl (v132 rfl ?_)
     refine we rfl (vs (wr ?_))
     refine wN rfl rfl rfl (v132 rfl ?_)
     refine we rfl (vs (vs (wr ?_)))
     refine wN (v := .ptr H6.length 0 1) rfl rfl rfl (v132 rfl ?_)
     refine wN (v := .row false L 0 120) rfl (g_load hG.o rfl rfl) rfl (v132 rfl ?_)
     first | refine wN rfl rfl rfl (v132 rfl ?_) | refine x_len rfl rfl ‹_› Tryz.underlying40 rfl (v132 rfl ?_)
     refine wN rfl rfl rfl (v132 rfl ?_)
     refine we rfl (vc_block ?_)
     refine vc_loopX (α := { z : Nat × Hp × AV × List (List AV) × AV // OI2 H7 (mk l a.toNat (l.length - a.toNat)) (fwd l zeroSh a.toNat (l.length - a.toNat)) z.1 z.2.1 z.2.2.1 z.2.2.2.1 z.2.2.2.2 }) (fun z => (rnone 12 ++ ([some (z.1.2.2.1), some (z.1.2.2.2.2)] ++ (rundef 4 ++ (rnone 66 ++ ([some (.int .i64 (z.1.1 : Nat))] ++ (rundef 45 ++ ([none, none])))))))) (fun z => z.1.2.1) (fun z => 120 - z.1.1) ⟨(0, H7, .nils, [], .nils), ⟨Nat.zero_le _, fun k o h => h, PV.nil, PRows.nil, PV.nil⟩⟩ (by repeat' first | exact trivial | refine ⟨.inr rfl, ?_⟩ | refine ⟨.inl rfl, ?_⟩ | fail) rfl ?_
     rintro ⟨⟨j, Hy, v, rows, u⟩, hO⟩ Y2 hY2
     refine vc_norm (env' := (_ :: _ :: _ :: _ :: _ :: _ :: _ :: _ :: _ :: _ :: _ :: _ :: v :: u :: _ :: _ :: _ :: _ :: _ :: _ :: _ :: _ :: _ :: _ :: _ :: _ :: _ :: _ :: _ :: _ :: _ :: _ :: _ :: _ :: _ :: _ :: _ :: _ :: _ :: _ :: _ :: _ :: _ :: _ :: _ :: _ :: _ :: _ :: _ :: _ :: _ :: _ :: _ :: _ :: _ :: _ :: _ :: _ :: _ :: _ :: _ :: _ :: _ :: _ :: _ :: _ :: _ :: _ :: _ :: _ :: _ :: _ :: _ :: _ :: _ :: _ :: _ :: _ :: _ :: _ :: _ :: _ :: _ :: _ :: (.int .i64 (j : Int)) :: _ :: _ :: _ :: _ :: _ :: _ :: _ :: _ :: _ :: _ :: _ :: _ :: _ :: _ :: _ :: _ :: _ :: _ :: _ :: _ :: _ :: _ :: _ :: _ :: _ :: _ :: _ :: _ :: _ :: _ :: _ :: _ :: _ :: _ :: _ :: _ :: _ :: _ :: _ :: _ :: _ :: _ :: _ :: _ :: _ :: _ :: _ :: [])) (H' := Hy) rfl rfl ?_
     replace hO : OI2 H7 (mk l a.toNat (l.length - a.toNat)) (fwd l zeroSh a.toNat (l.length - a.toNat)) j Hy v rows u := hO
     refine vs (wr ?_)
     refine wN rfl rfl rfl (v132 rfl ?_)
     refine we rfl (vs ?_)
     refine vc_cond rfl (fun hc85 => ?_) (fun hc85 => ?_)
     ·
      have hj : j < 120 := by have := of_decide_eq_true hc85; omega
      refine vc_skip (n_then (vs (vc_block (vs ?_))))
      obtain ⟨lp, s, prow, hlp, hsp, hpr, hprp, hby⟩ := hG.at (i := j) (by omega)
      have h128 := (hSx s (List.mem_of_getElem? hsp)).1
      have hSxs := (hSx s (List.mem_of_getElem? hsp)).2
      refine wr ?_
      refine wN rfl rfl rfl (v132 rfl ?_)
      refine wN (v := .ptr L j 0) rfl (g_index0 el40 (hO.low _ _ hpr) (by omega) (by omega)) rfl (v132 rfl ?_)
      refine wN (v := .agg [.row true lp 0 s.1.length, .int .i64 s.2]) rfl (g_load (hO.low _ _ hpr) hprp rfl) rfl (v132 rfl ?_)
      refine w_opH (v := .ptr Hy.length 0 0) (env' := _) (H2 := (Hy ++ [VO.arr 95 2 [[.nils, .int .i64 0]]])) rfl (g_alloc z95 rfl rfl) rfl (rfl) (fun _ h => h) (v132 rfl ?_)
      refine wN rfl rfl rfl (v132 rfl ?_)
      refine w_op0N (H2 := (Hy ++ [VO.arr 95 2 [[.row true lp 0 s.1.length, .int .i64 s.2]]])) rfl (g_store get_last rfl rfl sz95 ⟨rfl, by simp, by decide⟩) (set_last) (fun _ h => h) ?_
      refine we rfl (vs (vs (wr ?_)))
      refine wN rfl rfl rfl (v132 rfl ?_)
      refine we rfl (vc_block ?_)
      refine vc_loopX (α := { z : Nat × Hp × AV × List (List AV) // AI H7 Hy.length (VO.arr 95 2 [[.row true lp 0 s.1.length, .int .i64 s.2]]) ((mk l a.toNat (l.length - a.toNat)) j) s.1 j (gatP (mk l a.toNat (l.length - a.toNat)) (fwd l zeroSh a.toNat (l.length - a.toNat)) (j + 1)) u (stmP (fwd l zeroSh a.toNat (l.length - a.toNat)) j) z.1 z.2.1 z.2.2.1 z.2.2.2 }) (fun z => (rnone 12 ++ ([some (z.1.2.2.1), none, none, none, some (.int .i64 (z.1.1 : Nat)), some .undef] ++ (rnone 71 ++ (rundef 32 ++ (rnone 11)))))) (fun z => z.1.2.1) (fun z => 128 - z.1.1) ⟨(0, _, v, rows), ⟨fun k o h => get_app (hO.low k o h), get_last, hO.p.keep fun L2 _ h => get_app h, hO.s.keep fun L2 _ h => get_app h, _, hO.r.keep fun l2 bs h => get_app h, (gatP_next hsp).symm⟩⟩ (by repeat' first | exact trivial | refine ⟨.inr rfl, ?_⟩ | refine ⟨.inl rfl, ?_⟩ | fail) rfl ?_
      rintro ⟨⟨i, Hz, v, rows⟩, hA⟩ Y3 hY3
      refine vc_norm (env' := (_ :: _ :: _ :: _ :: _ :: _ :: _ :: _ :: _ :: _ :: _ :: _ :: v :: _ :: _ :: _ :: (.int .i64 (i : Int)) :: _ :: _ :: _ :: _ :: _ :: _ :: _ :: _ :: _ :: _ :: _ :: _ :: _ :: _ :: _ :: _ :: _ :: _ :: _ :: _ :: _ :: _ :: _ :: _ :: _ :: _ :: _ :: _ :: _ :: _ :: _ :: _ :: _ :: _ :: _ :: _ :: _ :: _ :: _ :: _ :: _ :: _ :: _ :: _ :: _ :: _ :: _ :: _ :: _ :: _ :: _ :: _ :: _ :: _ :: _ :: _ :: _ :: _ :: _ :: _ :: _ :: _ :: _ :: _ :: _ :: _ :: _ :: _ :: _ :: _ :: _ :: _ :: _ :: _ :: _ :: _ :: _ :: _ :: _ :: _ :: _ :: _ :: _ :: _ :: _ :: _ :: _ :: _ :: _ :: _ :: _ :: _ :: _ :: _ :: _ :: _ :: _ :: _ :: _ :: _ :: _ :: _ :: _ :: _ :: _ :: _ :: _ :: _ :: _ :: _ :: _ :: _ :: _ :: _ :: _ :: [])) (H' := Hz) rfl rfl ?_
      replace hA : AI H7 Hy.length (VO.arr 95 2 [[.row true lp 0 s.1.length, .int .i64 s.2]]) ((mk l a.toNat (l.length - a.toNat)) j) s.1 j (gatP (mk l a.toNat (l.length - a.toNat)) (fwd l zeroSh a.toNat (l.length - a.toNat)) (j + 1)) u (stmP (fwd l zeroSh a.toNat (l.length - a.toNat)) j) i Hz v rows := hA
      refine vs (vs (wr ?_))
      iterate 2 refine wN rfl rfl rfl (v132 rfl ?_)
      refine we rfl ?_
      refine vc_cond rfl (fun hc90 => ?_) (fun hc90 => ?_)
      ·
       have hi128 : i < 128 := by have := of_decide_eq_true hc90; omega
       refine vc_skip (n_then (vs (vc_block (vs (wr ?_)))))
       iterate 2 refine wN rfl rfl rfl (v132 rfl ?_)
       refine we rfl (vs (vc_block ?_))
       refine vc_loopX (α := { z : Nat // i ≤ z ∧ z ≤ 128 ∧ runEnd (mk l a.toNat (l.length - a.toNat) j) z = runEnd (mk l a.toNat (l.length - a.toNat) j) i }) (fun z => (rnone 17 ++ ([some (.int .i64 (z.1 : Nat))] ++ (rnone 76 ++ (rundef 11 ++ (rnone 27)))))) (fun z => Hz) (fun z => 128 - z.1) ⟨i, Nat.le_refl _, by omega, rfl⟩ (by repeat' first | exact trivial | refine ⟨.inr rfl, ?_⟩ | refine ⟨.inl rfl, ?_⟩ | fail) rfl ?_
       rintro ⟨e, hie, heu, hre⟩ Y4 hY4
       refine vc_norm (env' := (_ :: _ :: _ :: _ :: _ :: _ :: _ :: _ :: _ :: _ :: _ :: _ :: _ :: _ :: _ :: _ :: _ :: (.int .i64 (e : Int)) :: _ :: _ :: _ :: _ :: _ :: _ :: _ :: _ :: _ :: _ :: _ :: _ :: _ :: _ :: _ :: _ :: _ :: _ :: _ :: _ :: _ :: _ :: _ :: _ :: _ :: _ :: _ :: _ :: _ :: _ :: _ :: _ :: _ :: _ :: _ :: _ :: _ :: _ :: _ :: _ :: _ :: _ :: _ :: _ :: _ :: _ :: _ :: _ :: _ :: _ :: _ :: _ :: _ :: _ :: _ :: _ :: _ :: _ :: _ :: _ :: _ :: _ :: _ :: _ :: _ :: _ :: _ :: _ :: _ :: _ :: _ :: _ :: _ :: _ :: _ :: _ :: _ :: _ :: _ :: _ :: _ :: _ :: _ :: _ :: _ :: _ :: _ :: _ :: _ :: _ :: _ :: _ :: _ :: _ :: _ :: _ :: _ :: _ :: _ :: _ :: _ :: _ :: _ :: _ :: _ :: _ :: _ :: _ :: _ :: _ :: _ :: _ :: _ :: _ :: [])) (H' := Hz) rfl rfl ?_
       refine vs (vs (wr ?_))
       iterate 3 refine wN rfl rfl rfl (v132 rfl ?_)
       refine w_split 96 rfl (fun hg96 => ?_) (fun hg96 => ?_)
       ·
        have hlt : e < 128 := by have := of_decide_eq_true hg96; omega
        refine v132 rfl ?_
        iterate 2 refine wN (wanted_t 96 (by kernel_rfl) rfl) rfl rfl (v132 rfl ?_)
        refine wN (v := .ptr 0 0 (0 + j * 128)) (wanted_t 96 (by kernel_rfl) rfl) (g_indexA el105 (by omega) (by omega)) rfl (v132 rfl ?_)
        refine wN (v := .ptr 0 0 (j * 128 + e)) (wanted_t 96 (by kernel_rfl) rfl) ((by have h9 := g_indexA (H := Hz) (l := 0) (i := 0) (k := 0 + j * 128) (kk := .i64) el104 (show 0 ≤ (e : Int) by omega) (by omega); rw [show 0 + j * 128 + (e : Int).toNat * 1 = j * 128 + e by omega] at h9; exact h9)) rfl (v132 rfl ?_)
        refine wN (v := .bool (mk l a.toNat (l.length - a.toNat) j e)) (wanted_t 96 (by kernel_rfl) rfl) (g_loadW (hA.low _ _ hG.m) (hG.mar j e (by omega) hlt) ag4) rfl (v132 rfl ?_)
        refine wN rfl rfl rfl (v132 rfl ?_)
        refine we rfl ?_
        refine vc_cond rfl (fun hc102 => ?_) (fun hc102 => ?_)
        ·
         have hmk : mk l a.toNat (l.length - a.toNat) j e = true := hc102
         refine vc_skip (n_then (vc_block (wr ?_)))
         iterate 3 refine wN rfl rfl rfl (v132 rfl ?_)
         refine w_endB rfl (n_then ?_)
         refine hY4 ⟨e + 1, by omega, by omega, by rw [runEnd_go hlt hmk]; exact hre⟩ (by simp only; omega) _ _ ?_ rfl
         repeat' first | exact trivial | refine ⟨.inr rfl, ?_⟩ | refine ⟨.inl rfl, ?_⟩ | refine ⟨.inl ?_, ?_⟩ | fail
         all_goals first | exact (int_succ (by omega)).symm
        ·
         have hend : runEnd (mk l a.toNat (l.length - a.toNat) j) i = e := by rw [← hre]; exact runEnd_stop (by rw [show mk l a.toNat (l.length - a.toNat) j e = false by simpa using hc102]; simp)
         refine vc_exit (x_then (x_then (x_same (n_then (vs (wr ?_))))))
         iterate 3 refine wN rfl rfl rfl (v132 rfl ?_)
         refine we rfl ?_
         refine vc_cond rfl (fun hc107 => ?_) (fun hc107 => ?_)
         ·
          refine vs ?_
          have hlt2 : i < e := by have := of_decide_eq_true hc107; omega
          have hbz := hA.low _ _ hby
          have h7z : H7.length ≤ Hz.length + 2 := by
           have h0 := lt_of hG.o
           have := lt_of (hA.low (H7.length - 1) _ (List.getElem?_eq_getElem (by omega)))
           omega
          obtain ⟨Lp, hv, hLb, hacc⟩ := hA.p.opn (Hz.length + 2) h7z
          subst hv
          have hrl : rows.length ≤ 129 * 120 := by
           obtain ⟨ps, hp1, hp2⟩ := hA.r
           have h1 := congrArg List.length hp2
           rw [List.length_append] at h1
           have h2 := gatP_length (g := (mk l a.toNat (l.length - a.toNat))) (sh := (fwd l zeroSh a.toNat (l.length - a.toNat))) (j + 1)
           have h3 := hp1.len
           omega
          refine wr ?_
          iterate 3 refine wN rfl rfl rfl (v132 rfl ?_)
          refine wN (v := .ptr Hy.length 0 0) rfl rfl rfl (v132 rfl ?_)
          refine wN (v := .row true lp 0 s.1.length) rfl (g_load hA.w' rfl rfl) rfl (v132 rfl ?_)
          iterate 2 refine wN rfl rfl rfl (v132 rfl ?_)
          refine wN (v := .row (cutT true s.1.length e none) lp i (e - i)) rfl ((by have h9 := g_slice2 (b := true) (i := 0) (n := (i : Int)) (k := (e : Int)) Tryz.underlying68 sz5 hbz (by omega) (by omega) (show (e : Int) ≤ (s.1.length : Nat) by omega); rw [Nat.zero_add] at h9; exact h9)) rfl (v132 rfl ?_)
          refine w_callS rfl rfl rfl (by kernel_rfl) rfl (bCloneR G Hz _ lp i (e - i) ((s.1.drop i).take (e - i)) (sub_rows hbz (by omega) (by omega)) (fun h => by have := congrArg List.length h; simp at this; omega) (by simp; omega) (fun q hq => hSxs q (List.mem_of_mem_drop (List.mem_of_mem_take hq)))) ?_
          rintro _ Hw ⟨rfl, hHw⟩
          rw [hHw]
          refine v132 rfl ?_
          refine wN (v := .agg [.int .i64 (j : Int), .int .i64 (i : Int), .row false Hz.length 0 ((s.1.drop i).take (e - i)).length]) rfl (rfl) rfl (v132 rfl ?_)
          refine w_opH (v := .row true (Hz.length + 1) 0 1) (env' := _) (H2 := ((Hz ++ [VO.arr 5 1 ((s.1.drop i).take (e - i))]) ++ [VO.arr 108 3 [[.int .i64 (j : Int), .int .i64 (i : Int), .row false Hz.length 0 ((s.1.drop i).take (e - i)).length]]])) rfl (g_build1 (H := (Hz ++ [VO.arr 5 1 ((s.1.drop i).take (e - i))])) (x := .agg [.int .i64 (j : Int), .int .i64 (i : Int), .row false Hz.length 0 ((s.1.drop i).take (e - i)).length]) (cs := [.int .i64 (j : Int), .int .i64 (i : Int), .row false Hz.length 0 ((s.1.drop i).take (e - i)).length]) el52 zc108 (by decide) rfl rfl (by simp)) rfl (rfl) (fun _ h => h) (v132 rfl ?_)
          refine w_opH (v := .row false (Hz.length + 2) 0 (rows.length + 1)) (env' := _) (H2 := (((Hz ++ [VO.arr 5 1 ((s.1.drop i).take (e - i))]) ++ [VO.arr 108 3 [[.int .i64 (j : Int), .int .i64 (i : Int), .row false Hz.length 0 ((s.1.drop i).take (e - i)).length]]]).set Lp .dead ++ [VO.arr 108 3 (rows ++ [[.int .i64 (j : Int), .int .i64 (i : Int), .row false Hz.length 0 ((s.1.drop i).take (e - i)).length]])])) rfl (accR (n := Hz.length + 2) (H := ((Hz ++ [VO.arr 5 1 ((s.1.drop i).take (e - i))]) ++ [VO.arr 108 3 [[.int .i64 (j : Int), .int .i64 (i : Int), .row false Hz.length 0 ((s.1.drop i).take (e - i)).length]]])) (L := Lp) (pgs := rows) (news := [[.int .i64 (j : Int), .int .i64 (i : Int), .row false Hz.length 0 ((s.1.drop i).take (e - i)).length]]) (x := .row true (Hz.length + 1) 0 1) (e := 108) (hacc.imp (fun h => ⟨h.1, by simp; exact h.2⟩) (fun h => ⟨h.1, get_app (get_app h.2)⟩)) (by simp) el52 Tryz.underlying52 rfl zc108 by108 (row_all (rows := [[.int .i64 (j : Int), .int .i64 (i : Int), .row false Hz.length 0 ((s.1.drop i).take (e - i)).length]]) (get_lastn (by simp))) rfl (by decide) (by decide) rfl rfl (by simp) (by simp; have := hrl; omega)) rfl (rfl) (fun _ h => h) (v132 rfl ?_)
          refine wN rfl rfl rfl (v132 rfl ?_)
          refine we rfl (wr ?_)
          iterate 2 refine wN rfl rfl rfl (v132 rfl ?_)
          refine w_endB rfl (n_then (wr ?_))
          iterate 3 refine wN rfl rfl rfl (v132 rfl ?_)
          refine we rfl ?_
          refine hY3 ⟨(e + 1, _, _, _), AI.next hA hi128 hend hlt2 (by omega) hSxs hLb hacc⟩ (by simp only; omega) _ _ ?_ rfl
          repeat' first | exact trivial | refine ⟨.inr rfl, ?_⟩ | refine ⟨.inl rfl, ?_⟩ | refine ⟨.inl ?_, ?_⟩ | fail
          all_goals first | exact (int_succ (by omega)).symm
         ·
          have hei : e = i := by have := of_decide_eq_false hc107; omega
          rw [hei] at hend
          refine vc_skip (n_block (n_then (wr ?_)))
          iterate 3 refine wN rfl rfl rfl (v132 rfl ?_)
          refine we rfl ?_
          refine hY3 ⟨(i + 1, _, _, _), hA.skip hi128 hend⟩ (by simp only; omega) _ _ ?_ rfl
          repeat' first | exact trivial | refine ⟨.inr rfl, ?_⟩ | refine ⟨.inl rfl, ?_⟩ | refine ⟨.inl ?_, ?_⟩ | fail
          all_goals first | exact (int_succ (by omega)).symm
       ·
        have hend : runEnd (mk l a.toNat (l.length - a.toNat) j) i = e := by rw [← hre]; exact runEnd_stop (by have := of_decide_eq_false hg96; omega)
        refine v132 rfl ?_
        iterate 5 refine wS (wanted_f 96 (by kernel_rfl) rfl) (v132 rfl ?_)
        refine wN rfl rfl rfl (v132 rfl ?_)
        refine we rfl ?_
        refine vc_false rfl ?_
        refine vc_exit (x_then (x_then (x_same (n_then (vs (wr ?_))))))
        iterate 3 refine wN rfl rfl rfl (v132 rfl ?_)
        refine we rfl ?_
        refine vc_cond rfl (fun hc107 => ?_) (fun hc107 => ?_)
        ·
         refine vs ?_
         have hlt2 : i < e := by have := of_decide_eq_true hc107; omega
         have hbz := hA.low _ _ hby
         have h7z : H7.length ≤ Hz.length + 2 := by
          have h0 := lt_of hG.o
          have := lt_of (hA.low (H7.length - 1) _ (List.getElem?_eq_getElem (by omega)))
          omega
         obtain ⟨Lp, hv, hLb, hacc⟩ := hA.p.opn (Hz.length + 2) h7z
         subst hv
         have hrl : rows.length ≤ 129 * 120 := by
          obtain ⟨ps, hp1, hp2⟩ := hA.r
          have h1 := congrArg List.length hp2
          rw [List.length_append] at h1
          have h2 := gatP_length (g := (mk l a.toNat (l.length - a.toNat))) (sh := (fwd l zeroSh a.toNat (l.length - a.toNat))) (j + 1)
          have h3 := hp1.len
          omega
         refine wr ?_
         iterate 3 refine wN rfl rfl rfl (v132 rfl ?_)
         refine wN (v := .ptr Hy.length 0 0) rfl rfl rfl (v132 rfl ?_)
         refine wN (v := .row true lp 0 s.1.length) rfl (g_load hA.w' rfl rfl) rfl (v132 rfl ?_)
         iterate 2 refine wN rfl rfl rfl (v132 rfl ?_)
         refine wN (v := .row (cutT true s.1.length e none) lp i (e - i)) rfl ((by have h9 := g_slice2 (b := true) (i := 0) (n := (i : Int)) (k := (e : Int)) Tryz.underlying68 sz5 hbz (by omega) (by omega) (show (e : Int) ≤ (s.1.length : Nat) by omega); rw [Nat.zero_add] at h9; exact h9)) rfl (v132 rfl ?_)
         refine w_callS rfl rfl rfl (by kernel_rfl) rfl (bCloneR G Hz _ lp i (e - i) ((s.1.drop i).take (e - i)) (sub_rows hbz (by omega) (by omega)) (fun h => by have := congrArg List.length h; simp at this; omega) (by simp; omega) (fun q hq => hSxs q (List.mem_of_mem_drop (List.mem_of_mem_take hq)))) ?_
         rintro _ Hw ⟨rfl, hHw⟩
         rw [hHw]
         refine v132 rfl ?_
         refine wN (v := .agg [.int .i64 (j : Int), .int .i64 (i : Int), .row false Hz.length 0 ((s.1.drop i).take (e - i)).length]) rfl (rfl) rfl (v132 rfl ?_)
         refine w_opH (v := .row true (Hz.length + 1) 0 1) (env' := _) (H2 := ((Hz ++ [VO.arr 5 1 ((s.1.drop i).take (e - i))]) ++ [VO.arr 108 3 [[.int .i64 (j : Int), .int .i64 (i : Int), .row false Hz.length 0 ((s.1.drop i).take (e - i)).length]]])) rfl (g_build1 (H := (Hz ++ [VO.arr 5 1 ((s.1.drop i).take (e - i))])) (x := .agg [.int .i64 (j : Int), .int .i64 (i : Int), .row false Hz.length 0 ((s.1.drop i).take (e - i)).length]) (cs := [.int .i64 (j : Int), .int .i64 (i : Int), .row false Hz.length 0 ((s.1.drop i).take (e - i)).length]) el52 zc108 (by decide) rfl rfl (by simp)) rfl (rfl) (fun _ h => h) (v132 rfl ?_)
         refine w_opH (v := .row false (Hz.length + 2) 0 (rows.length + 1)) (env' := _) (H2 := (((Hz ++ [VO.arr 5 1 ((s.1.drop i).take (e - i))]) ++ [VO.arr 108 3 [[.int .i64 (j : Int), .int .i64 (i : Int), .row false Hz.length 0 ((s.1.drop i).take (e - i)).length]]]).set Lp .dead ++ [VO.arr 108 3 (rows ++ [[.int .i64 (j : Int), .int .i64 (i : Int), .row false Hz.length 0 ((s.1.drop i).take (e - i)).length]])])) rfl (accR (n := Hz.length + 2) (H := ((Hz ++ [VO.arr 5 1 ((s.1.drop i).take (e - i))]) ++ [VO.arr 108 3 [[.int .i64 (j : Int), .int .i64 (i : Int), .row false Hz.length 0 ((s.1.drop i).take (e - i)).length]]])) (L := Lp) (pgs := rows) (news := [[.int .i64 (j : Int), .int .i64 (i : Int), .row false Hz.length 0 ((s.1.drop i).take (e - i)).length]]) (x := .row true (Hz.length + 1) 0 1) (e := 108) (hacc.imp (fun h => ⟨h.1, by simp; exact h.2⟩) (fun h => ⟨h.1, get_app (get_app h.2)⟩)) (by simp) el52 Tryz.underlying52 rfl zc108 by108 (row_all (rows := [[.int .i64 (j : Int), .int .i64 (i : Int), .row false Hz.length 0 ((s.1.drop i).take (e - i)).length]]) (get_lastn (by simp))) rfl (by decide) (by decide) rfl rfl (by simp) (by simp; have := hrl; omega)) rfl (rfl) (fun _ h => h) (v132 rfl ?_)
         refine wN rfl rfl rfl (v132 rfl ?_)
         refine we rfl (wr ?_)
         iterate 2 refine wN rfl rfl rfl (v132 rfl ?_)
         refine w_endB rfl (n_then (wr ?_))
         iterate 3 refine wN rfl rfl rfl (v132 rfl ?_)
         refine we rfl ?_
         refine hY3 ⟨(e + 1, _, _, _), AI.next hA hi128 hend hlt2 (by omega) hSxs hLb hacc⟩ (by simp only; omega) _ _ ?_ rfl
         repeat' first | exact trivial | refine ⟨.inr rfl, ?_⟩ | refine ⟨.inl rfl, ?_⟩ | refine ⟨.inl ?_, ?_⟩ | fail
         all_goals first | exact (int_succ (by omega)).symm
        ·
         have hei : e = i := by have := of_decide_eq_false hc107; omega
         rw [hei] at hend
         refine vc_skip (n_block (n_then (wr ?_)))
         iterate 3 refine wN rfl rfl rfl (v132 rfl ?_)
         refine we rfl ?_
         refine hY3 ⟨(i + 1, _, _, _), hA.skip hi128 hend⟩ (by simp only; omega) _ _ ?_ rfl
         repeat' first | exact trivial | refine ⟨.inr rfl, ?_⟩ | refine ⟨.inl rfl, ?_⟩ | refine ⟨.inl ?_, ?_⟩ | fail
         all_goals first | exact (int_succ (by omega)).symm
      ·
       have hi128 : ¬ i < 128 := by have := of_decide_eq_false hc90; omega
       refine vc_exit (x_then (x_then (x_same (n_then (vs (wr ?_))))))
       refine wN (v := .ptr Hy.length 0 1) rfl rfl rfl (v132 rfl ?_)
       refine wN (v := .int .i64 s.2) rfl (g_load hA.w' rfl rfl) rfl (v132 rfl ?_)
       refine wN rfl rfl rfl (v132 rfl ?_)
       refine we rfl ?_
       refine vc_cond rfl (fun hc123 => ?_) (fun hc123 => ?_)
       ·
        have hst : 0 < s.2 := by have := of_decide_eq_true hc123; omega
        have h7z : H7.length ≤ Hz.length := by
         have h0 := lt_of hG.o
         have := lt_of (hA.low (H7.length - 1) _ (List.getElem?_eq_getElem (by omega)))
         omega
        obtain ⟨Ls, hu, hLs, hacs⟩ := hA.s.opn Hz.length h7z
        subst hu
        refine wr ?_
        refine wN rfl rfl rfl (v132 rfl ?_)
        refine wN (v := .ptr Hy.length 0 1) rfl rfl rfl (v132 rfl ?_)
        refine wN (v := .int .i64 s.2) rfl (g_load hA.w' rfl rfl) rfl (v132 rfl ?_)
        refine wN (v := .list .tight [[.int .i64 s.2]]) rfl (rfl) rfl (v132 rfl ?_)
        refine w_opH (v := .row false Hz.length 0 ((stmP (fwd l zeroSh a.toNat (l.length - a.toNat)) j).length + 1)) (env' := _) (H2 := (Hz.set Ls .dead ++ [VO.arr 3 1 (stmP (fwd l zeroSh a.toNat (l.length - a.toNat)) j ++ [[.int .i64 s.2]])])) rfl (accR (n := Hz.length) (H := Hz) (L := Ls) (pgs := stmP (fwd l zeroSh a.toNat (l.length - a.toNat)) j) (news := [[.int .i64 s.2]]) (x := .list .tight [[.int .i64 s.2]]) (e := 3) hacs rfl el35 Tryz.underlying35 rfl zc3 by3 rfl rfl (by decide) (by decide) rfl rfl (by simp) (by simp; have := stmP_length (sh := (fwd l zeroSh a.toNat (l.length - a.toNat))) j; omega)) rfl (rfl) (fun _ h => h) (v132 rfl ?_)
        refine wN rfl rfl rfl (v132 rfl ?_)
        refine w_endB rfl (n_then (wr ?_))
        iterate 2 refine wN rfl rfl rfl (v132 rfl ?_)
        refine we rfl ?_
        refine hY2 ⟨(j + 1, _, _, _, _), OI2.stamp hA hi128 hj hsp hst hLs hacs⟩ (by simp only; omega) _ _ ?_ rfl
        repeat' first | exact trivial | refine ⟨.inr rfl, ?_⟩ | refine ⟨.inl rfl, ?_⟩ | refine ⟨.inl ?_, ?_⟩ | fail
        all_goals first | exact (int_succ (by omega)).symm
       ·
        have hst : ¬ 0 < s.2 := by have := of_decide_eq_false hc123; omega
        refine vc_skip (n_block (n_then (wr ?_)))
        iterate 2 refine wN rfl rfl rfl (v132 rfl ?_)
        refine we rfl ?_
        refine hY2 ⟨(j + 1, _, _, _, _), OI2.none hA hi128 hj hsp hst⟩ (by simp only; omega) _ _ ?_ rfl
        repeat' first | exact trivial | refine ⟨.inr rfl, ?_⟩ | refine ⟨.inl rfl, ?_⟩ | refine ⟨.inl ?_, ?_⟩ | fail
        all_goals first | exact (int_succ (by omega)).symm
     ·
      have hj : j = 120 := by have := of_decide_eq_false hc85; have := hO.le; omega
      subst hj
      refine vc_exit (x_then (x_then (x_same (n_then (vs (wr ?_))))))
      iterate 5 refine wN rfl rfl rfl (v132 rfl ?_)
      refine we rfl (vc_ret (r_fn rfl ?_))
      rw [gatherR, if_pos hs, if_neg (by omega)]
      obtain ⟨L1, hv1, _, h12⟩ := hO.p
      obtain ⟨L2, hu1, _, h13⟩ := hO.s
      rw [hv1, hu1]
      exact ret_tup3 (hO.r.ret h12) (ret_ints (stmP_int 120) h13) rfl
end Lay
end Go.Vi
namespace Go.Vi
open Go Go.Vi Go.Proofs
attribute [local irreducible] vops vopsD vc
namespace Lay
def mm : List AV := List.replicate 128 (.bool false)
def bb : List AV := List.replicate 128 (.int .u8 0)
theorem zr104 : zrOf Tryz.prog 104 = some (.agg mm) := by kernel_rfl
theorem zr109 : zrOf Tryz.prog 109 = some (.agg bb) := by kernel_rfl
theorem zr108 : zrOf Tryz.prog 108 = some (.agg [.int .i64 0, .int .i64 0, .nils]) := by kernel_rfl
theorem mm_len : mm.length = 128 := List.length_replicate ..
theorem bb_len : bb.length = 128 := List.length_replicate ..
theorem mm_mk {g : Nat → Bool} (hg : ∀ c, g c = false) : Mk1 mm g := fun c hc => by
 rw [mm, List.getElem?_replicate, if_pos (by omega), hg]
theorem bb_cells : bb.map (fun x => [x]) = z128 := by
 rw [bb, z128, List.map_replicate]
attribute [local irreducible] mm bb
theorem el109 : elemAt Tryz.prog 109 = some (some 128, 5, 1) := by kernel_rfl
theorem ag5 : aggOf Tryz.prog 5 = some false := by kernel_rfl
structure RI (l : List Rc) (A p : Nat) (Hx : Hp) (i : Nat) (Hy : Hp) (M B : List AV) (s : Sheet) : Prop where
 le : A ≤ i
 up : i ≤ l.length
 low : ∀ (k : Nat) (o : VO), Hx[k]? = some o → Hy[k]? = some o
 m : Hy[Hx.length]? = some (.arr 104 128 [M])
 b : Hy[Hx.length + 1]? = some (.arr 109 128 [B])
 mar : Mk1 M (mk l A (i - A) p)
 sh : (fwd l zeroSh A (i - A))[p]? = some s
 cel : B.map (fun x => [x]) = s.1
 ok : s.1.length = 128 ∧ Bs s.1
structure KI (l : List Rc) (A p : Nat) (Hx : Hp) (i n : Nat) (r : Rc) (s : Sheet) (k : Nat) (Hz : Hp) (M B : List AV) : Prop where
 low : ∀ (k : Nat) (o : VO), Hx[k]? = some o → Hz[k]? = some o
 m : Hz[Hx.length]? = some (.arr 104 128 [M])
 b : Hz[Hx.length + 1]? = some (.arr 109 128 [B])
 rb : Hz[n]? = some (.arr 93 10 [r.row])
 mar : Mk1 M (mkK l A (i - A) r k p)
 cel : B.map (fun x => [x]) = lay s.1 r.pos.toNat ((lrows r.aft).take k)
theorem RI.skip {l : List Rc} {A p i : Nat} {Hx Hy : Hp} {M B : List AV} {s : Sheet} {r : Rc} (h : RI l A p Hx i Hy M B s) (o : VO) (hr : l[i]? = some r) (hn : laysB r = false ∨ r.page.toNat ≠ p) : RI l A p Hx (i + 1) (Hy ++ [o]) M B s := by
 have hle := h.le
 have hi1 : i + 1 - A = (i - A) + 1 := by omega
 have hri : l[A + (i - A)]? = some r := by rw [show A + (i - A) = i by omega]; exact hr
 have hlt := (List.getElem?_eq_some_iff.1 hr).1
 refine ⟨by omega, hlt, fun k o hk => get_app (h.low k o hk), get_app h.m, get_app h.b, h.mar.congr fun c => ?_, ?_, h.cel, h.ok⟩
 · rw [hi1, mk_next hri, hit]
   rcases hn with hn | hn
   · rw [hn]; simp
   · simp [hn]
 · rw [hi1, fwd_succ, show A + (i - A) = i by omega]
   simp only [stepR, hr]
   rcases hn with hn | hn
   · rw [layR_no hn]; exact h.sh
   · unfold layR
     split
     · unfold updS
       split
       · rw [List.getElem?_set_ne hn]; exact h.sh
       · exact h.sh
     · exact h.sh
theorem RI.go {l : List Rc} {A p i : Nat} {Hx Hy : Hp} {M B : List AV} {s : Sheet} {r : Rc} (h : RI l A p Hx i Hy M B s) : KI l A p Hx i Hy.length r s 0 (Hy ++ [.arr 93 10 [r.row]]) M B :=
 ⟨fun k o hk => get_app (h.low k o hk), get_app h.m, get_app h.b, get_last, h.mar.congr fun c => mkK_zero.symm, by rw [List.take_zero, lay_zero]; exact h.cel⟩
theorem KI.next {l : List Rc} {A p i n k : Nat} {Hx Hz : Hp} {M B : List AV} {s : Sheet} {r : Rc} {v : Int} (h : KI l A p Hx i n r s k Hz M B) (hn : Hx.length + 1 < n) (hp : r.page.toNat = p) (hx : (lrows r.aft)[k]? = some [.int .u8 v]) (hin : r.pos.toNat + (lrows r.aft).length ≤ s.1.length) (h128 : s.1.length = 128) :
 KI l A p Hx i n r s (k + 1) ((Hz.set Hx.length (.arr 104 128 [setC M (r.pos.toNat + k) [.bool true]])).set (Hx.length + 1) (.arr 109 128 [setC B (r.pos.toNat + k) [.int .u8 v]])) (setC M (r.pos.toNat + k) [.bool true]) (setC B (r.pos.toNat + k) [.int .u8 v]) := by
 have hk := (List.getElem?_eq_some_iff.1 hx).1
 have hM := (List.getElem?_eq_some_iff.1 (h.mar (r.pos.toNat + k) (by omega))).1
 have hB : r.pos.toNat + k < B.length := by
  have := congrArg List.length h.cel
  rw [List.length_map, lay_length (by simp; omega)] at this
  omega
 refine ⟨fun j o hj => ?_, get_set (get_self h.m) (by omega), get_self (get_set h.b (by omega)), get_set (get_set h.rb (by omega)) (by omega), ?_, ?_⟩
 · have := (List.getElem?_eq_some_iff.1 hj).1
   exact get_set (get_set (h.low j o hj) (by omega)) (by omega)
 · rw [setC_one hM]
   refine h.mar.next (by omega) fun c => ?_
   rw [mkK_next, hp]
   simp
 · rw [setC_one hB, List.map_set, h.cel, lay_next hx hin]
theorem KI.done {l : List Rc} {A p i n : Nat} {Hx Hy Hz : Hp} {M B M2 B2 : List AV} {s : Sheet} {r : Rc} (h0 : RI l A p Hx i Hy M2 B2 s) (h : KI l A p Hx i n r s (lrows r.aft).length Hz M B) (hr : l[i]? = some r) (hl : laysB r = true) (hp : r.page.toNat = p) (hO : r.Ok) (hin : r.pos.toNat + (lrows r.aft).length ≤ s.1.length) : RI l A p Hx (i + 1) Hz M B (lay s.1 r.pos.toNat (lrows r.aft), (i : Int) + 1) := by
 have hle := h0.le
 have hi1 : i + 1 - A = (i - A) + 1 := by omega
 have hri : l[A + (i - A)]? = some r := by rw [show A + (i - A) = i by omega]; exact hr
 have hlt := (List.getElem?_eq_some_iff.1 hr).1
 have hc := h.cel
 rw [List.take_length] at hc
 refine ⟨by omega, hlt, h.low, h.m, h.b, h.mar.congr fun c => by rw [hi1]; exact mkK_full hri hl, ?_, hc, by rw [lay_length hin]; exact h0.ok.1, lay_bs h0.ok.2 hO.aft.2.2⟩
 rw [hi1, fwd_succ, show A + (i - A) = i by omega]
 simp only [stepR, hr]
 rw [layR, if_pos hl, hp, updS_at h0.sh, List.getElem?_set_self (List.getElem?_eq_some_iff.1 h0.sh).1]
theorem keep1 {H : Hp} {o n o2 : VO} {L k : Nat} {T : TypeId} {sz : Nat} {rows : List (List AV)} (hacc : (rows = [] ∧ H.length + 1 ≤ L) ∨ (rows ≠ [] ∧ H[L]? = some (.arr T sz rows))) (h2 : H[k]? = some o2) (hne : ∀ r, o2 ≠ .arr T sz r) : ((H ++ [o]).set L .dead ++ [n])[k]? = some o2 :=
 get_app (kill_keep (n := H.length + 1) (hacc.imp id fun h => ⟨h.1, get_app h.2⟩) (by simp) (get_app h2) hne)
theorem arr_ne {T T' : TypeId} {sz sz' : Nat} {z : List (List AV)} (hT : T ≠ T') (r : List (List AV)) : VO.arr T sz z ≠ .arr T' sz' r := fun e => by cases e; exact hT rfl
theorem AI.next2 {Hz Hw : Hp} {q pg i e L Lb : Nat} {w o : VO} {g : Nat → Bool} {b tgt st rows : List (List AV)} {u v : AV} (h : AI [] q w g b pg tgt u st i Hz v rows) (hw : ∀ r, w ≠ .arr 108 3 r) (hi : i < 128) (he : runEnd g i = e) (hie : i < e) (hle : e ≤ b.length) (hb : Bs b) (hlow : ∀ (k : Nat) (o : VO), Hz[k]? = some o → Hw[k]? = some o) (hbyt : Hw[Lb]? = some (.arr 5 1 ((b.drop i).take (e - i)))) (hacc : (rows = [] ∧ Hw.length + 1 ≤ L) ∨ (rows ≠ [] ∧ Hw[L]? = some (.arr 108 3 rows))) :
 AI [] q w g b pg tgt u st (e + 1) ((Hw ++ [o]).set L .dead ++ [VO.arr 108 3 (rows ++ [[.int .i64 pg, .int .i64 i, .row false Lb 0 ((b.drop i).take (e - i)).length]])]) (.row false (Hw.length + 1) 0 (rows.length + 1)) (rows ++ [[.int .i64 pg, .int .i64 i, .row false Lb 0 ((b.drop i).take (e - i)).length]]) := by
 obtain ⟨ps, h1, h2⟩ := h.r
 have hb2 : Bs ((b.drop i).take (e - i)) := fun q hq => hb q (List.mem_of_mem_drop (List.mem_of_mem_take hq))
 have kp : ∀ (k : Nat) (o2 : VO), Hw[k]? = some o2 → (∀ r, o2 ≠ .arr 108 3 r) → ((Hw ++ [o]).set L .dead ++ [VO.arr 108 3 (rows ++ [[.int .i64 pg, .int .i64 i, .row false Lb 0 ((b.drop i).take (e - i)).length]])])[k]? = some o2 := fun k o2 hk hn => keep1 hacc hk hn
 refine ⟨fun k o2 hk => (by cases hk), kp _ _ (hlow _ _ h.w') hw, ?_, h.s.keep fun L2 _ h3 => kp _ _ (hlow _ _ h3) (arr_ne (by decide)), ps ++ [[.int .i64 pg, .int .i64 i, .list .loose ((b.drop i).take (e - i))]], (h1.keep fun l bs hl => kp l _ (hlow _ _ hl) (arr_ne (by decide))).snoc (kp _ _ hbyt (arr_ne (by decide))) rfl hb2, ?_⟩
 · have hz : Hw.length + 1 = ((Hw ++ [o]).set L .dead).length := by simp
   refine PV.mk' (Nat.zero_le _) ?_
   rw [hz]
   exact get_last
 · rw [List.append_assoc, ← h2, pcs_run hi he hie]
   rfl
theorem OI2.fin {H7 Hz : Hp} {q pg i : Nat} {w : VO} {g : Nat → Nat → Bool} {sh : List Sheet} {j : Nat} {rows : List (List AV)} {v : AV} {b : List (List AV)} {u : AV} (h : AI H7 q w (g j) b pg (gatP g sh (j + 1)) u (stmP sh (j + 1)) i Hz v rows) (hi : ¬ i < 128) (hj : j < 120) : OI2 H7 g sh (j + 1) Hz v rows u := by
 obtain ⟨ps, h1, h2⟩ := h.r
 rw [pcs_stop hi, List.append_nil] at h2
 subst h2
 exact ⟨hj, h.low, h.p, h1, h.s⟩
theorem OI2.skip {Hx Hy : Hp} {g : Nat → Nat → Bool} {sh : List Sheet} {s : Sheet} {j : Nat} {rows : List (List AV)} {v u : AV} (h : OI2 [] g sh j Hx v rows u) (hj : j < 120) (hs : sh[j]? = some s) (h0 : s.2 = 0) (hg : ∀ c, g j c = false) (hlow : ∀ (k : Nat) (o : VO), Hx[k]? = some o → Hy[k]? = some o) : OI2 [] g sh (j + 1) Hy v rows u :=
 ⟨hj, fun k o hk => (by cases hk), h.p.keep fun L _ h3 => hlow _ _ h3, by rw [gatP_next hs, pcs_none hg, List.append_nil]; exact h.r.keep fun l bs hl => hlow _ _ hl, by rw [stmP_no hs (by omega)]; exact h.s.keep fun L _ h3 => hlow _ _ h3⟩
structure BI (Hz : Hp) (e0 e : Nat) (x : List AV) (bs : List (List AV)) (Hw : Hp) (v : AV) : Prop where
 low : ∀ (k : Nat) (o : VO), Hz[k]? = some o → Hw[k]? = some o
 q : Hw[Hz.length]? = some (.arr 108 3 [x ++ [v]])
 p : PV (Hz.length + 1) Hw 5 1 v bs
theorem BI.next {Hz Hw : Hp} {e0 e e' L : Nat} {a1 a2 : AV} {bs : List (List AV)} {x : List AV} (h : BI Hz e0 e [a1, a2] bs Hw (pval L bs)) (hL : Hz.length + 1 ≤ L) (hacc : (bs = [] ∧ Hw.length ≤ L) ∨ (bs ≠ [] ∧ Hw[L]? = some (.arr 5 1 bs))) :
 BI Hz e0 e' [a1, a2] (bs ++ [x]) ((Hw.set L .dead ++ [VO.arr 5 1 (bs ++ [x])]).set Hz.length (.arr 108 3 [[a1, a2, .row false Hw.length 0 (bs.length + 1)]])) (.row false Hw.length 0 (bs.length + 1)) := by
 have hq := (List.getElem?_eq_some_iff.1 h.q).1
 have hz : Hw.length = (Hw.set L .dead).length := by simp
 refine ⟨fun k o hk => ?_, get_self (get_app (get_set h.q (by omega))), PV.mk' (by omega) (get_set ?_ (by omega))⟩
 · have := (List.getElem?_eq_some_iff.1 hk).1
   exact get_set (get_app (get_set (h.low k o hk) (by omega))) (by omega)
 · rw [hz]; exact get_last
theorem take_next {b : List (List AV)} {i e : Nat} {x : List AV} (hie : i ≤ e) (hx : b[e]? = some x) : (b.drop i).take (e - i) ++ [x] = (b.drop i).take (e + 1 - i) := by
 rw [show e + 1 - i = (e - i) + 1 by omega, List.take_add_one, List.getElem?_drop, show i + (e - i) = e by omega, hx]
 rfl
set_option maxHeartbeats 8000000 in
theorem bGatherR (G : Glob) (x : AV) (l : List Rc) (hx : Recs x l) (hl : l.length ≤ 1000000) (a : Int) : Vi.Fn Tryz.prog G 28 [x, .int .i64 a] (gatherR l a) := by
 have hL := hx.isL
 have hxl : (lrows x).length = l.length := by rw [hx.rows]; simp
 refine fn_body (fun o => match o.op with | .call ⟨.builtin .append, _, _⟩ => .shr | .buildSlice t _ _ => if t = 52 then .shr else .iso | _ => .iso) Tryz.func28 rfl ?_
 refine vc_norm (env' := (_ :: _ :: _ :: _ :: _ :: _ :: _ :: _ :: _ :: _ :: _ :: _ :: _ :: _ :: _ :: _ :: _ :: _ :: _ :: _ :: _ :: _ :: _ :: _ :: _ :: _ :: _ :: _ :: _ :: _ :: _ :: _ :: _ :: _ :: _ :: _ :: _ :: _ :: _ :: _ :: _ :: _ :: _ :: _ :: _ :: _ :: _ :: _ :: _ :: _ :: _ :: _ :: _ :: _ :: _ :: _ :: _ :: _ :: _ :: _ :: _ :: _ :: _ :: _ :: _ :: _ :: _ :: _ :: _ :: _ :: _ :: _ :: _ :: _ :: _ :: _ :: _ :: _ :: _ :: _ :: _ :: _ :: _ :: _ :: _ :: _ :: _ :: _ :: _ :: _ :: _ :: _ :: _ :: _ :: _ :: _ :: _ :: _ :: _ :: _ :: _ :: _ :: _ :: _ :: _ :: _ :: _ :: _ :: _ :: _ :: _ :: _ :: _ :: _ :: _ :: _ :: _ :: _ :: [])) (H' := []) rfl rfl ?_
 refine vs (wr ?_)
 iterate 3 refine wN rfl rfl rfl (v118 rfl ?_)
 refine we rfl (vs (vc_block (vs (wr ?_))))
 refine wN rfl rfl rfl (v118 rfl ?_)
 refine w_callI (env' := _) rfl rfl rfl (by kernel_rfl) rfl (by repeat' first | exact IsL.lend ‹_› | exact IsL.lend0 ‹_› | refine mapL_cons ?_ ?_ | refine lend_agg ?_ | rfl) (sSoundR G x l hx hl) rfl (v118 rfl ?_)
 iterate 2 refine wN rfl rfl rfl (v118 rfl ?_)
 refine we rfl ?_
 refine vc_cond rfl (fun hc18 => ?_) (fun hc18 => ?_)
 ·
  have hs : soundR l = false := by simpa using hc18
  refine vs (wr ?_)
  iterate 3 refine wN rfl rfl rfl (v118 rfl ?_)
  refine we rfl (vc_ret (r_block (r_then (r_fn rfl ?_))))
  rw [gatherR, if_neg (by rw [hs]; decide)]
  rfl
 ·
  have hs : soundR l = true := by simpa using hc18
  refine vs (wr ?_)
  iterate 3 refine wN rfl rfl rfl (v118 rfl ?_)
  refine w_split 25 rfl (fun hg25 => ?_) (fun hg25 => ?_)
  ·
   have hneg : a < 0 := of_decide_eq_true hg25
   refine v118 rfl ?_
   iterate 4 refine wS (wanted_f 25 (by kernel_rfl) rfl) (v118 rfl ?_)
   iterate 2 refine wN rfl rfl rfl (v118 rfl ?_)
   refine we rfl ?_
   refine vc_true rfl ?_
   refine vs (wr ?_)
   iterate 3 refine wN rfl rfl rfl (v118 rfl ?_)
   refine we rfl (vc_ret (r_block (r_then (r_fn rfl ?_))))
   rw [gatherR, if_pos hs, if_pos (.inl hneg)]
   rfl
  ·
   have hpos : 0 ≤ a := by have := of_decide_eq_false hg25; omega
   refine v118 rfl ?_
   iterate 2 refine wN (wanted_t 25 (by kernel_rfl) rfl) rfl rfl (v118 rfl ?_)
   first | refine wN (wanted_t 25 (by kernel_rfl) rfl) rfl rfl (v118 rfl ?_) | refine x_len (wanted_t 25 (by kernel_rfl) rfl) rfl ‹_› Tryz.underlying43 rfl (v118 rfl ?_)
   refine wN (wanted_t 25 (by kernel_rfl) rfl) rfl rfl (v118 rfl ?_)
   iterate 2 refine wN rfl rfl rfl (v118 rfl ?_)
   refine we rfl ?_
   refine vc_cond rfl (fun hc22 => ?_) (fun hc22 => ?_)
   ·
    have hgt : a > l.length := by have := of_decide_eq_true hc22; rw [hxl] at this; omega
    refine vs (wr ?_)
    iterate 3 refine wN rfl rfl rfl (v118 rfl ?_)
    refine we rfl (vc_ret (r_block (r_then (r_fn rfl ?_))))
    rw [gatherR, if_pos hs, if_pos (.inr hgt)]
    rfl
   ·
    refine vc_skip (n_block (n_then (vs ?_)))
    have hle : a ≤ l.length := by have := of_decide_eq_false hc22; rw [hxl] at this; omega
    have hR := sound_in hx hs
    have hNS := noSt_fwd (l := l) (a := a.toNat) (n := l.length - a.toNat) (by omega)
    refine wr ?_
    refine wN rfl rfl rfl (v118 rfl ?_)
    refine we rfl (vs (wr ?_))
    refine wN rfl rfl rfl (v118 rfl ?_)
    refine we rfl (vs (vs (wr ?_)))
    refine wN rfl rfl rfl (v118 rfl ?_)
    refine we rfl (vc_block ?_)
    refine vc_loopX (α := { z : Nat × Hp × AV × List (List AV) × AV // OI2 [] (mk l a.toNat (l.length - a.toNat)) (fwd l zeroSh a.toNat (l.length - a.toNat)) z.1 z.2.1 z.2.2.1 z.2.2.2.1 z.2.2.2.2 }) (fun z => (rnone 7 ++ ([some (z.1.2.2.1), some (z.1.2.2.2.2), some (.int .i64 (z.1.1 : Nat))] ++ (rundef 8 ++ (rnone 13 ++ (rundef 85 ++ ([none, none]))))))) (fun z => z.1.2.1) (fun z => 120 - z.1.1) ⟨(0, [], .nils, [], .nils), ⟨Nat.zero_le _, fun k o h => h, PV.nil, PRows.nil, PV.nil⟩⟩ (by repeat' first | exact trivial | refine ⟨.inr rfl, ?_⟩ | refine ⟨.inl rfl, ?_⟩ | fail) rfl ?_
    rintro ⟨⟨p, Hx, v, rows, u⟩, hO⟩ Y0 hY0
    refine vc_norm (env' := (_ :: _ :: _ :: _ :: _ :: _ :: _ :: v :: u :: (.int .i64 (p : Int)) :: _ :: _ :: _ :: _ :: _ :: _ :: _ :: _ :: _ :: _ :: _ :: _ :: _ :: _ :: _ :: _ :: _ :: _ :: _ :: _ :: _ :: _ :: _ :: _ :: _ :: _ :: _ :: _ :: _ :: _ :: _ :: _ :: _ :: _ :: _ :: _ :: _ :: _ :: _ :: _ :: _ :: _ :: _ :: _ :: _ :: _ :: _ :: _ :: _ :: _ :: _ :: _ :: _ :: _ :: _ :: _ :: _ :: _ :: _ :: _ :: _ :: _ :: _ :: _ :: _ :: _ :: _ :: _ :: _ :: _ :: _ :: _ :: _ :: _ :: _ :: _ :: _ :: _ :: _ :: _ :: _ :: _ :: _ :: _ :: _ :: _ :: _ :: _ :: _ :: _ :: _ :: _ :: _ :: _ :: _ :: _ :: _ :: _ :: _ :: _ :: _ :: _ :: _ :: _ :: _ :: _ :: _ :: _ :: [])) (H' := Hx) rfl rfl ?_
    replace hO : OI2 [] (mk l a.toNat (l.length - a.toNat)) (fwd l zeroSh a.toNat (l.length - a.toNat)) p Hx v rows u := hO
    refine vs (vs (wr ?_))
    iterate 2 refine wN rfl rfl rfl (v118 rfl ?_)
    refine we rfl ?_
    refine vc_cond rfl (fun hc32 => ?_) (fun hc32 => ?_)
    ·
     have hp : p < 120 := by have := of_decide_eq_true hc32; omega
     refine vc_skip (n_then (vs (vc_block (vs (wr ?_)))))
     refine w_opH (v := .ptr Hx.length 0 0) (env' := _) (H2 := Hx ++ [VO.arr 104 mm.length [mm]]) rfl (g_alloc zr104 rfl rfl) rfl (rfl) (fun _ h => h) (v118 rfl ?_)
     rw [mm_len]
     refine v118 rfl ?_
     refine we rfl (vs (wr ?_))
     refine w_opH (v := .ptr (Hx.length + 1) 0 0) (env' := _) (H2 := (Hx ++ [VO.arr 104 128 [mm]]) ++ [VO.arr 109 bb.length [bb]]) rfl (g_alloc zr109 rfl (by simp)) rfl (rfl) (fun _ h => h) (v118 rfl ?_)
     rw [bb_len]
     refine v118 rfl ?_
     refine we rfl (vs (wr ?_))
     refine wN rfl rfl rfl (v118 rfl ?_)
     refine we rfl (vs (vs (wr ?_)))
     iterate 2 refine wN rfl rfl rfl (v118 rfl ?_)
     refine we rfl (vc_block ?_)
     refine vc_loopX (α := { z : Nat × Hp × List AV × List AV × Sheet // RI l a.toNat p Hx z.1 z.2.1 z.2.2.1 z.2.2.2.1 z.2.2.2.2 }) (fun z => (rnone 12 ++ ([some (.int .i64 z.1.2.2.2.2.2), some (.int .i64 (z.1.1 : Nat)), some .undef, some .undef] ++ (rnone 20 ++ (rundef 42 ++ (rnone 40)))))) (fun z => z.1.2.1) (fun z => l.length - z.1.1) ⟨(a.toNat, _, mm, bb, (z128, 0)), ⟨Nat.le_refl _, by omega, fun k o h => get_app (get_app h), get_app get_last, get_lastn (by simp), mm_mk fun c => by rw [Nat.sub_self]; rfl, by rw [Nat.sub_self, fwd_zero, zeroSh, List.getElem?_replicate, if_pos hp], bb_cells, List.length_replicate .., z128_bs⟩⟩ (by repeat' first | exact trivial | refine ⟨.inr rfl, ?_⟩ | refine ⟨.inl rfl, ?_⟩ | refine ⟨.inl (congrArg (AV.int .i64) (show ((a.toNat : Nat) : Int) = a by omega)), ?_⟩ | fail) rfl ?_
     rintro ⟨⟨i, Hy, M, B, s⟩, hI⟩ Y1 hY1
     refine vc_norm (env' := (_ :: _ :: _ :: _ :: _ :: _ :: _ :: _ :: _ :: _ :: _ :: _ :: (.int .i64 s.2) :: (.int .i64 (i : Int)) :: _ :: _ :: _ :: _ :: _ :: _ :: _ :: _ :: _ :: _ :: _ :: _ :: _ :: _ :: _ :: _ :: _ :: _ :: _ :: _ :: _ :: _ :: _ :: _ :: _ :: _ :: _ :: _ :: _ :: _ :: _ :: _ :: _ :: _ :: _ :: _ :: _ :: _ :: _ :: _ :: _ :: _ :: _ :: _ :: _ :: _ :: _ :: _ :: _ :: _ :: _ :: _ :: _ :: _ :: _ :: _ :: _ :: _ :: _ :: _ :: _ :: _ :: _ :: _ :: _ :: _ :: _ :: _ :: _ :: _ :: _ :: _ :: _ :: _ :: _ :: _ :: _ :: _ :: _ :: _ :: _ :: _ :: _ :: _ :: _ :: _ :: _ :: _ :: _ :: _ :: _ :: _ :: _ :: _ :: _ :: _ :: _ :: _ :: _ :: _ :: _ :: _ :: _ :: _ :: [])) (H' := Hy) rfl rfl ?_
     replace hI : RI l a.toNat p Hx i Hy M B s := hI
     have hHy := lt_of hI.b
     refine vs (vs (wr ?_))
     iterate 2 refine wN rfl rfl rfl (v118 rfl ?_)
     first | refine wN rfl rfl rfl (v118 rfl ?_) | refine x_len rfl rfl ‹_› Tryz.underlying43 rfl (v118 rfl ?_)
     refine wN rfl rfl rfl (v118 rfl ?_)
     refine we rfl ?_
     refine vc_cond rfl (fun hc39 => ?_) (fun hc39 => ?_)
     ·
      have hlt : i < l.length := by have := of_decide_eq_true hc39; omega
      obtain ⟨r, hr⟩ : ∃ r, l[i]? = some r := ⟨_, List.getElem?_eq_getElem hlt⟩
      have hri := hx.at hr
      have hrm := List.mem_of_getElem? hr
      have hOk := hx.ok r hrm
      have hLa := hOk.aft.1
      have hIn := (hR r hrm).2
      have hp0 := hIn.p0
      have hp1 := hIn.p1
      have hg0 := hIn.g0
      have hg1 := hIn.g1
      have hna : r.na = (lrows r.aft).length := rfl
      refine vc_skip (n_then (vs (vc_block (vs (wr ?_)))))
      iterate 2 refine wN rfl rfl rfl (v118 rfl ?_)
      first | refine wN (v := .iptr _ [_, _, _, _, _, _, _, _, _, _]) rfl rfl rfl (v118 rfl ?_) | (refine x_index rfl rfl ‹_› rfl el43 (by omega) ‹_› rfl (fun bo => ?_); refine v118 rfl ?_)
      refine wN (v := .agg r.row) rfl (rfl) rfl (v118 rfl ?_)
      refine w_opH (v := .ptr Hy.length 0 0) (env' := _) (H2 := (Hy ++ [VO.arr 93 10 [[.int .i64 0, .int .i64 0, .int .i64 0, .int .i64 0, .nils, .nils, .int .i64 0, .int .i64 0, .str ⟨#[]⟩, .nils]]])) rfl (g_alloc zr93b rfl rfl) rfl (rfl) (fun _ h => h) (v118 rfl ?_)
      refine w_op0N (H2 := (Hy ++ [VO.arr 93 10 [r.row]])) rfl (g_store get_last rfl rfl sz93 ⟨rfl, by simp [Rc.row], by decide⟩) (set_last) (fun _ h => h) ?_
      refine we rfl (vs (wr ?_))
      refine wN (v := .agg r.row) rfl (g_load get_last rfl rfl) rfl (v118 rfl ?_)
      refine w_callI (env' := _) rfl rfl rfl (by kernel_rfl) rfl (mapL_cons hOk.lend rfl) (sLaysR G r hOk) rfl (v118 rfl ?_)
      refine wN rfl rfl rfl (v118 rfl ?_)
      refine w_split 48 rfl (fun hg48 => ?_) (fun hg48 => ?_)
      ·
       have hly : laysB r = true := hg48
       refine v118 rfl ?_
       refine wN (v := .ptr Hy.length 0 2) (wanted_t 48 (by kernel_rfl) rfl) rfl rfl (v118 rfl ?_)
       refine wN (v := .int .i64 r.page) (wanted_t 48 (by kernel_rfl) rfl) (g_load get_last rfl rfl) rfl (v118 rfl ?_)
       iterate 2 refine wN (wanted_t 48 (by kernel_rfl) rfl) rfl rfl (v118 rfl ?_)
       refine wN rfl rfl rfl (v118 rfl ?_)
       refine we rfl ?_
       refine vc_cond rfl (fun hc53 => ?_) (fun hc53 => ?_)
       ·
        refine vs (vs ?_)
        have hpp : r.page.toNat = p := by have := of_decide_eq_true hc53; omega
        have h128 := hI.ok.1
        refine wr ?_
        refine wN rfl rfl rfl (v118 rfl ?_)
        refine we rfl (vc_block ?_)
        refine vc_loopX (α := { z : Nat × Hp × List AV × List AV // z.1 ≤ (lrows r.aft).length ∧ KI l a.toNat p Hx i Hy.length r s z.1 z.2.1 z.2.2.1 z.2.2.2 }) (fun z => (rnone 15 ++ ([some (.int .i64 (z.1.1 : Nat))] ++ (rnone 38 ++ (rundef 22 ++ (rnone 42)))))) (fun z => z.1.2.1) (fun z => (lrows r.aft).length - z.1.1) ⟨(0, _, M, B), Nat.zero_le _, hI.go⟩ (by repeat' first | exact trivial | refine ⟨.inr rfl, ?_⟩ | refine ⟨.inl rfl, ?_⟩ | fail) rfl ?_
        rintro ⟨⟨k, Hz, Mz, Bz⟩, hkl, hK⟩ Y2 hY2
        refine vc_norm (env' := (_ :: _ :: _ :: _ :: _ :: _ :: _ :: _ :: _ :: _ :: _ :: _ :: _ :: _ :: _ :: (.int .i64 (k : Int)) :: _ :: _ :: _ :: _ :: _ :: _ :: _ :: _ :: _ :: _ :: _ :: _ :: _ :: _ :: _ :: _ :: _ :: _ :: _ :: _ :: _ :: _ :: _ :: _ :: _ :: _ :: _ :: _ :: _ :: _ :: _ :: _ :: _ :: _ :: _ :: _ :: _ :: _ :: _ :: _ :: _ :: _ :: _ :: _ :: _ :: _ :: _ :: _ :: _ :: _ :: _ :: _ :: _ :: _ :: _ :: _ :: _ :: _ :: _ :: _ :: _ :: _ :: _ :: _ :: _ :: _ :: _ :: _ :: _ :: _ :: _ :: _ :: _ :: _ :: _ :: _ :: _ :: _ :: _ :: _ :: _ :: _ :: _ :: _ :: _ :: _ :: _ :: _ :: _ :: _ :: _ :: _ :: _ :: _ :: _ :: _ :: _ :: _ :: _ :: _ :: _ :: _ :: [])) (H' := Hz) rfl rfl ?_
        replace hkl : k ≤ (lrows r.aft).length := hkl
        replace hK : KI l a.toNat p Hx i Hy.length r s k Hz Mz Bz := hK
        refine vs (vs (wr ?_))
        refine wN rfl rfl rfl (v118 rfl ?_)
        refine wN (v := .ptr Hy.length 0 5) rfl rfl rfl (v118 rfl ?_)
        refine wN (v := r.aft) rfl (g_load hK.rb rfl rfl) rfl (v118 rfl ?_)
        refine wN (v := .int .i64 ((lrows r.aft).length : Nat)) rfl (vlen_isL hOk.aft.1 Tryz.underlying68) rfl (v118 rfl ?_)
        refine wN rfl rfl rfl (v118 rfl ?_)
        refine we rfl ?_
        refine vc_cond rfl (fun hc58 => ?_) (fun hc58 => ?_)
        ·
         have hlk : k < (lrows r.aft).length := by have := of_decide_eq_true hc58; omega
         obtain ⟨w, hrv⟩ : ∃ w, (lrows r.aft)[k]? = some [.int .u8 w] := by
          obtain ⟨w, hv⟩ := hOk.aft.2.2 _ (List.getElem_mem hlk)
          exact ⟨w, by rw [List.getElem?_eq_getElem hlk, hv]⟩
         refine vc_skip (n_then (vs (vc_block (vs ?_))))
         have hMl : r.pos.toNat + k + 1 ≤ Mz.length := (List.getElem?_eq_some_iff.1 (hK.mar (r.pos.toNat + k) (by omega))).1
         have hBl : r.pos.toNat + k + 1 ≤ Bz.length := by
          have := congrArg List.length hK.cel
          rw [List.length_map, lay_length (by simp; omega)] at this
          omega
         refine wr ?_
         refine wN (v := .ptr Hy.length 0 3) rfl rfl rfl (v118 rfl ?_)
         refine wN (v := .int .i64 r.pos) rfl (g_load hK.rb rfl rfl) rfl (v118 rfl ?_)
         refine wN rfl rfl rfl (v118 rfl ?_)
         refine wN (v := .int .i64 (r.pos + (k : Int))) rfl (int_eq (i64_small (by omega) (by omega))) rfl (v118 rfl ?_)
         refine wN (v := .ptr Hx.length 0 (r.pos.toNat + k)) rfl ((by have h9 := g_indexA (H := Hz) (l := Hx.length) (i := 0) (k := 0) (kk := .i64) el104 (show 0 ≤ r.pos + (k : Int) by omega) (by omega); rw [show 0 + (r.pos + (k : Int)).toNat * 1 = r.pos.toNat + k by omega] at h9; exact h9)) rfl (v118 rfl ?_)
         refine w_op0N (H2 := (Hz.set Hx.length (VO.arr 104 128 [setC Mz (r.pos.toNat + k) [.bool true]]))) rfl (g_store hK.m rfl rfl sz4 ⟨rfl, hMl, by decide⟩) (rfl) (fun _ h => h) ?_
         refine we rfl ?_
         have hrb2 : (Hz.set Hx.length (VO.arr 104 128 [setC Mz (r.pos.toNat + k) [.bool true]]))[Hy.length]? = some (VO.arr 93 10 [r.row]) := get_set hK.rb (by have := lt_of hI.m; omega)
         refine w_regionD (by kernel_rfl) ?_
         refine dN (v := .ptr Hy.length 0 3) rfl rfl rfl (d118 rfl ?_)
         refine dN (v := .int .i64 r.pos) rfl (g_load hrb2 rfl rfl) rfl (d118 rfl ?_)
         refine dN rfl rfl rfl (d118 rfl ?_)
         refine dN (v := .int .i64 (r.pos + (k : Int))) rfl (int_eq (i64_small (by omega) (by omega))) rfl (d118 rfl ?_)
         refine dN (v := .ptr Hy.length 0 5) rfl rfl rfl (d118 rfl ?_)
         refine dN (v := r.aft) rfl (g_load hrb2 rfl rfl) rfl (d118 rfl ?_)
         refine dN rfl rfl rfl (d118 rfl ?_)
         first | refine dN rfl rfl rfl (d118 rfl ?_) | (refine y_index rfl rfl ‹_› rfl el68 (by omega) ‹_› rfl (fun bo => ?_); refine d118 rfl ?_)
         refine dN rfl rfl rfl (d118 rfl ?_)
         refine dN (v := .ptr (Hx.length + 1) 0 (r.pos.toNat + k)) rfl ((by have h9 := g_indexA (H := (Hz.set Hx.length (VO.arr 104 128 [setC Mz (r.pos.toNat + k) [.bool true]]))) (l := (Hx.length + 1)) (i := 0) (k := 0) (kk := .i64) el109 (show 0 ≤ r.pos + (k : Int) by omega) (by omega); rw [show 0 + (r.pos + (k : Int)).toNat * 1 = r.pos.toNat + k by omega] at h9; exact h9)) rfl (d118 rfl ?_)
         refine d_op0 (H2 := ((Hz.set Hx.length (VO.arr 104 128 [setC Mz (r.pos.toNat + k) [.bool true]])).set (Hx.length + 1) (VO.arr 109 128 [setC Bz (r.pos.toNat + k) [.int .u8 w]]))) rfl (g_store (get_set hK.b (by omega)) rfl rfl sz5 ⟨rfl, hBl, by decide⟩) (.inl rfl) (rfl) (fun _ h => h) ?_
         refine d_endB rfl (n_then (wr ?_))
         iterate 3 refine wN rfl rfl rfl (v118 rfl ?_)
         refine we rfl ?_
         refine hY2 ⟨(k + 1, _, _, _), hlk, hK.next hHy hpp hrv (by omega) h128⟩ (by simp only; omega) _ _ ?_ rfl
         repeat' first | exact trivial | refine ⟨.inr rfl, ?_⟩ | refine ⟨.inl rfl, ?_⟩ | refine ⟨.inl ?_, ?_⟩ | fail
         all_goals first | exact (int_succ (by omega)).symm
        ·
         have hgk : k = (lrows r.aft).length := by have := of_decide_eq_false hc58; omega
         subst hgk
         refine vc_exit (x_then (x_then (x_same (n_then (wr ?_)))))
         refine wN rfl rfl rfl (v118 rfl ?_)
         refine wN (v := .int .i64 ((i : Int) + 1)) rfl (int_eq (i64_small (by omega) (by omega))) rfl (v118 rfl ?_)
         refine wN rfl rfl rfl (v118 rfl ?_)
         refine w_endB rfl (n_then (wr ?_))
         iterate 3 refine wN rfl rfl rfl (v118 rfl ?_)
         refine we rfl ?_
         refine hY1 ⟨(i + 1, _, _, _, (lay s.1 r.pos.toNat (lrows r.aft), (i : Int) + 1)), KI.done hI hK hr hly hpp hOk (by omega)⟩ (by simp only; omega) _ _ ?_ rfl
         repeat' first | exact trivial | refine ⟨.inr rfl, ?_⟩ | refine ⟨.inl rfl, ?_⟩ | refine ⟨.inl ?_, ?_⟩ | fail
         all_goals first | exact (int_succ (by omega)).symm
       ·
        have hpp : r.page.toNat ≠ p := by have h9 : r.page ≠ (p : Int) := of_decide_eq_false hc53; omega
        refine vc_skip (n_block (n_then (wr ?_)))
        iterate 3 refine wN rfl rfl rfl (v118 rfl ?_)
        refine we rfl ?_
        refine hY1 ⟨(i + 1, _, _, _, s), hI.skip _ hr (.inr hpp)⟩ (by simp only; omega) _ _ ?_ rfl
        repeat' first | exact trivial | refine ⟨.inr rfl, ?_⟩ | refine ⟨.inl rfl, ?_⟩ | refine ⟨.inl ?_, ?_⟩ | fail
        all_goals first | exact (int_succ (by omega)).symm
      ·
       have hly : laysB r = false := hg48
       refine v118 rfl ?_
       iterate 4 refine wS (wanted_f 48 (by kernel_rfl) rfl) (v118 rfl ?_)
       refine wN rfl rfl rfl (v118 rfl ?_)
       refine we rfl ?_
       refine vc_false rfl ?_
       refine vc_skip (n_block (n_then (wr ?_)))
       iterate 3 refine wN rfl rfl rfl (v118 rfl ?_)
       refine we rfl ?_
       refine hY1 ⟨(i + 1, _, _, _, s), hI.skip _ hr (.inl hly)⟩ (by simp only; omega) _ _ ?_ rfl
       repeat' first | exact trivial | refine ⟨.inr rfl, ?_⟩ | refine ⟨.inl rfl, ?_⟩ | refine ⟨.inl ?_, ?_⟩ | fail
       all_goals first | exact (int_succ (by omega)).symm
     ·
      have hge : l.length ≤ i := by have := of_decide_eq_false hc39; omega
      have hii : i = l.length := by have := hI.up; omega
      subst hii
      have hsF : (fwd l zeroSh a.toNat (l.length - a.toNat))[p]? = some s := hI.sh
      refine vc_exit (x_then (x_then (x_same (n_then (vs (vs (wr ?_)))))))
      iterate 2 refine wN rfl rfl rfl (v118 rfl ?_)
      refine we rfl ?_
      refine vc_cond rfl (fun hc79 => ?_) (fun hc79 => ?_)
      ·
       have hst : s.2 = 0 := of_decide_eq_true hc79
       refine vc_exit (x_then (x_same (n_then (wr ?_))))
       iterate 3 refine wN rfl rfl rfl (v118 rfl ?_)
       refine we rfl ?_
       refine hY0 ⟨(p + 1, _, _, _, _), OI2.skip hO hp hsF hst ((hNS p s hsF).2 hst) hI.low⟩ (by simp only; omega) _ _ ?_ rfl
       repeat' first | exact trivial | refine ⟨.inr rfl, ?_⟩ | refine ⟨.inl rfl, ?_⟩ | refine ⟨.inl ?_, ?_⟩ | fail
       all_goals first | exact (int_succ (by omega)).symm
      ·
       refine vc_skip (n_then (vs ?_))
       have hst : 0 < s.2 := by have h1 := (hNS p s hsF).1; have h2 : s.2 ≠ 0 := of_decide_eq_false hc79; omega
       obtain ⟨Ls, hu, hLs, hacs⟩ := (hO.s.keep fun L2 _ h3 => hI.low _ _ h3).opn Hy.length (Nat.zero_le _)
       subst hu
       refine wr ?_
       iterate 2 refine wN rfl rfl rfl (v118 rfl ?_)
       refine wN (v := .list .tight [[.int .i64 s.2]]) rfl (rfl) rfl (v118 rfl ?_)
       refine w_opH (v := .row false Hy.length 0 ((stmP (fwd l zeroSh a.toNat (l.length - a.toNat)) p).length + 1)) (env' := _) (H2 := (Hy.set Ls .dead ++ [VO.arr 3 1 (stmP (fwd l zeroSh a.toNat (l.length - a.toNat)) p ++ [[.int .i64 s.2]])])) rfl (accR (n := Hy.length) (H := Hy) (L := Ls) (pgs := stmP (fwd l zeroSh a.toNat (l.length - a.toNat)) p) (news := [[.int .i64 s.2]]) (x := .list .tight [[.int .i64 s.2]]) (e := 3) hacs rfl el35 Tryz.underlying35 rfl zc3 by3 rfl rfl (by decide) (by decide) rfl rfl (by simp) (by simp; have := stmP_length (sh := (fwd l zeroSh a.toNat (l.length - a.toNat))) p; omega)) rfl (rfl) (fun _ h => h) (v118 rfl ?_)
       refine wN rfl rfl rfl (v118 rfl ?_)
       refine we rfl (vs ?_)
       have hkp : ∀ (k : Nat) (o2 : VO), Hy[k]? = some o2 → (∀ r, o2 ≠ .arr 3 1 r) → (Hy.set Ls .dead ++ [VO.arr 3 1 (stmP (fwd l zeroSh a.toNat (l.length - a.toNat)) p ++ [[.int .i64 s.2]])])[k]? = some o2 := fun k o2 hk hn => get_app (kill_keep hacs (Nat.le_refl _) hk hn)
       have hA0 : AI [] Hx.length (VO.arr 104 128 [M]) ((mk l a.toNat (l.length - a.toNat)) p) s.1 p (gatP (mk l a.toNat (l.length - a.toNat)) (fwd l zeroSh a.toNat (l.length - a.toNat)) (p + 1)) (.row false Hy.length 0 ((stmP (fwd l zeroSh a.toNat (l.length - a.toNat)) p).length + 1)) (stmP (fwd l zeroSh a.toNat (l.length - a.toNat)) (p + 1)) 0 (Hy.set Ls .dead ++ [VO.arr 3 1 (stmP (fwd l zeroSh a.toNat (l.length - a.toNat)) p ++ [[.int .i64 s.2]])]) v rows := by
        refine ⟨fun k o hk => (by cases hk), hkp _ _ hI.m (arr_ne (by decide)), (hO.p.keep fun L2 _ h3 => hI.low _ _ h3).keep fun L2 _ h3 => hkp _ _ h3 (arr_ne (by decide)), ?_, _, (hO.r.keep fun l2 bs h3 => hI.low _ _ h3).keep fun l2 bs h3 => hkp _ _ h3 (arr_ne (by decide)), (gatP_next hsF).symm⟩
        rw [stmP_pos hsF hst]
        exact PV.mk' (Nat.zero_le _) (by rw [show Hy.length = (Hy.set Ls .dead).length by simp]; exact get_last)
       have hB0 := hkp _ _ hI.b (arr_ne (by decide))
       generalize hu2 : AV.row false Hy.length 0 ((stmP (fwd l zeroSh a.toNat (l.length - a.toNat)) p).length + 1) = u2 at *
       generalize hHs : (Hy.set Ls .dead ++ [VO.arr 3 1 (stmP (fwd l zeroSh a.toNat (l.length - a.toNat)) p ++ [[.int .i64 s.2]])]) = Hs at *
       refine wr ?_
       refine wN rfl rfl rfl (v118 rfl ?_)
       refine we rfl (vc_block ?_)
       have hMk : ∀ c : Nat, c < 128 → M[c]? = some (.bool (mk l a.toNat (l.length - a.toNat) p c)) := hI.mar
       refine vc_loopX (α := { z : Nat × Hp × AV × List (List AV) // AI [] Hx.length (VO.arr 104 128 [M]) ((mk l a.toNat (l.length - a.toNat)) p) s.1 p (gatP (mk l a.toNat (l.length - a.toNat)) (fwd l zeroSh a.toNat (l.length - a.toNat)) (p + 1)) u2 (stmP (fwd l zeroSh a.toNat (l.length - a.toNat)) (p + 1)) z.1 z.2.1 z.2.2.1 z.2.2.2 ∧ z.2.1[Hx.length + 1]? = some (VO.arr 109 128 [B]) }) (fun z => (rnone 7 ++ ([some (z.1.2.2.1)] ++ (rnone 8 ++ ([some (.int .i64 (z.1.1 : Nat)), some .undef] ++ (rnone 66 ++ (rundef 32 ++ ([none, none])))))))) (fun z => z.1.2.1) (fun z => 128 - z.1.1) ⟨(0, Hs, v, rows), hA0, hB0⟩ (by repeat' first | exact trivial | refine ⟨.inr rfl, ?_⟩ | refine ⟨.inl rfl, ?_⟩ | fail) rfl ?_
       rintro ⟨⟨i, Hz, v, rows⟩, hA, hBz⟩ Y3 hY3
       refine vc_norm (env' := (_ :: _ :: _ :: _ :: _ :: _ :: _ :: v :: _ :: _ :: _ :: _ :: _ :: _ :: _ :: _ :: (.int .i64 (i : Int)) :: _ :: _ :: _ :: _ :: _ :: _ :: _ :: _ :: _ :: _ :: _ :: _ :: _ :: _ :: _ :: _ :: _ :: _ :: _ :: _ :: _ :: _ :: _ :: _ :: _ :: _ :: _ :: _ :: _ :: _ :: _ :: _ :: _ :: _ :: _ :: _ :: _ :: _ :: _ :: _ :: _ :: _ :: _ :: _ :: _ :: _ :: _ :: _ :: _ :: _ :: _ :: _ :: _ :: _ :: _ :: _ :: _ :: _ :: _ :: _ :: _ :: _ :: _ :: _ :: _ :: _ :: _ :: _ :: _ :: _ :: _ :: _ :: _ :: _ :: _ :: _ :: _ :: _ :: _ :: _ :: _ :: _ :: _ :: _ :: _ :: _ :: _ :: _ :: _ :: _ :: _ :: _ :: _ :: _ :: _ :: _ :: _ :: _ :: _ :: _ :: _ :: [])) (H' := Hz) rfl rfl ?_
       replace hA : AI [] Hx.length (VO.arr 104 128 [M]) ((mk l a.toNat (l.length - a.toNat)) p) s.1 p (gatP (mk l a.toNat (l.length - a.toNat)) (fwd l zeroSh a.toNat (l.length - a.toNat)) (p + 1)) u2 (stmP (fwd l zeroSh a.toNat (l.length - a.toNat)) (p + 1)) i Hz v rows := hA
       replace hBz : Hz[Hx.length + 1]? = some (VO.arr 109 128 [B]) := hBz
       refine vs (vs (wr ?_))
       iterate 2 refine wN rfl rfl rfl (v118 rfl ?_)
       refine we rfl ?_
       refine vc_cond rfl (fun hc85 => ?_) (fun hc85 => ?_)
       ·
        have hi128 : i < 128 := by have := of_decide_eq_true hc85; omega
        refine vc_skip (n_then (vs (vc_block (vs (vs (wr ?_))))))
        refine wN rfl rfl rfl (v118 rfl ?_)
        refine wN (v := .ptr Hx.length 0 i) rfl ((by have h9 := g_indexA (H := Hz) (l := Hx.length) (i := 0) (k := 0) (kk := .i64) el104 (show 0 ≤ (i : Int) by omega) (by omega); rw [show 0 + (i : Int).toNat * 1 = i by omega] at h9; exact h9)) rfl (v118 rfl ?_)
        refine wN (v := .bool (mk l a.toNat (l.length - a.toNat) p i)) rfl (g_loadW hA.w' (hMk i hi128) ag4) rfl (v118 rfl ?_)
        refine wN rfl rfl rfl (v118 rfl ?_)
        refine we rfl ?_
        refine vc_cond rfl (fun hc91 => ?_) (fun hc91 => ?_)
        ·
         have hgi : mk l a.toNat (l.length - a.toNat) p i = false := by simpa using hc91
         refine vc_exit (x_then (x_same (n_then (wr ?_))))
         iterate 3 refine wN rfl rfl rfl (v118 rfl ?_)
         refine we rfl ?_
         refine hY3 ⟨(i + 1, _, _, _), hA.skip hi128 (runEnd_stop (by rw [hgi]; simp)), hBz⟩ (by simp only; omega) _ _ ?_ rfl
         repeat' first | exact trivial | refine ⟨.inr rfl, ?_⟩ | refine ⟨.inl rfl, ?_⟩ | refine ⟨.inl ?_, ?_⟩ | fail
         all_goals first | exact (int_succ (by omega)).symm
        ·
         have hgi : mk l a.toNat (l.length - a.toNat) p i = true := by simpa using hc91
         refine vc_skip (n_then (vs (wr ?_)))
         iterate 2 refine wN rfl rfl rfl (v118 rfl ?_)
         refine wN (v := .agg [.int .i64 (p : Int), .int .i64 (i : Int), .nils]) rfl (rfl) rfl (v118 rfl ?_)
         refine w_opH (v := .ptr Hz.length 0 0) (env' := _) (H2 := (Hz ++ [VO.arr 108 3 [[.int .i64 0, .int .i64 0, .nils]]])) rfl (g_alloc zr108 rfl rfl) rfl (rfl) (fun _ h => h) (v118 rfl ?_)
         refine w_op0N (H2 := (Hz ++ [VO.arr 108 3 [[.int .i64 (p : Int), .int .i64 (i : Int), .nils]]])) rfl (g_store get_last rfl rfl sz108 ⟨rfl, by simp, by decide⟩) (set_last) (fun _ h => h) ?_
         refine we rfl (vs (vc_block ?_))
         refine vc_loopX (α := { z : Nat × Hp × AV // i ≤ z.1 ∧ z.1 ≤ 128 ∧ runEnd (mk l a.toNat (l.length - a.toNat) p) z.1 = runEnd (mk l a.toNat (l.length - a.toNat) p) i ∧ BI Hz i z.1 [.int .i64 (p : Int), .int .i64 (i : Int)] ((s.1.drop i).take (z.1 - i)) z.2.1 z.2.2 }) (fun z => (rnone 16 ++ ([some (.int .i64 (z.1.1 : Nat))] ++ (rnone 78 ++ (rundef 17 ++ (rnone 6)))))) (fun z => z.1.2.1) (fun z => 128 - z.1.1) ⟨(i, _, .nils), Nat.le_refl _, by show i ≤ 128; omega, rfl, ⟨fun k o h => get_app h, get_last, by show PV _ _ _ _ _ ((s.1.drop i).take (i - i)); rw [Nat.sub_self, List.take_zero]; exact PV.nil⟩⟩ (by repeat' first | exact trivial | refine ⟨.inr rfl, ?_⟩ | refine ⟨.inl rfl, ?_⟩ | fail) rfl ?_
         rintro ⟨⟨e, Hw, bv⟩, hie, heu, hre, hW⟩ Y4 hY4
         refine vc_norm (env' := (_ :: _ :: _ :: _ :: _ :: _ :: _ :: _ :: _ :: _ :: _ :: _ :: _ :: _ :: _ :: _ :: (.int .i64 (e : Int)) :: _ :: _ :: _ :: _ :: _ :: _ :: _ :: _ :: _ :: _ :: _ :: _ :: _ :: _ :: _ :: _ :: _ :: _ :: _ :: _ :: _ :: _ :: _ :: _ :: _ :: _ :: _ :: _ :: _ :: _ :: _ :: _ :: _ :: _ :: _ :: _ :: _ :: _ :: _ :: _ :: _ :: _ :: _ :: _ :: _ :: _ :: _ :: _ :: _ :: _ :: _ :: _ :: _ :: _ :: _ :: _ :: _ :: _ :: _ :: _ :: _ :: _ :: _ :: _ :: _ :: _ :: _ :: _ :: _ :: _ :: _ :: _ :: _ :: _ :: _ :: _ :: _ :: _ :: _ :: _ :: _ :: _ :: _ :: _ :: _ :: _ :: _ :: _ :: _ :: _ :: _ :: _ :: _ :: _ :: _ :: _ :: _ :: _ :: _ :: _ :: _ :: [])) (H' := Hw) rfl rfl ?_
         replace hie : i ≤ e := hie
         replace heu : e ≤ 128 := heu
         replace hre : runEnd (mk l a.toNat (l.length - a.toNat) p) e = runEnd (mk l a.toNat (l.length - a.toNat) p) i := hre
         replace hW : BI Hz i e [.int .i64 (p : Int), .int .i64 (i : Int)] ((s.1.drop i).take (e - i)) Hw bv := hW
         refine vs (vs (wr ?_))
         iterate 3 refine wN rfl rfl rfl (v118 rfl ?_)
         refine w_split 97 rfl (fun hg97 => ?_) (fun hg97 => ?_)
         ·
          have hlt : e < 128 := by have := of_decide_eq_true hg97; omega
          refine v118 rfl ?_
          refine wN (wanted_t 97 (by kernel_rfl) rfl) rfl rfl (v118 rfl ?_)
          refine wN (v := .ptr Hx.length 0 e) (wanted_t 97 (by kernel_rfl) rfl) ((by have h9 := g_indexA (H := Hw) (l := Hx.length) (i := 0) (k := 0) (kk := .i64) el104 (show 0 ≤ (e : Int) by omega) (by omega); rw [show 0 + (e : Int).toNat * 1 = e by omega] at h9; exact h9)) rfl (v118 rfl ?_)
          refine wN (v := .bool (mk l a.toNat (l.length - a.toNat) p e)) (wanted_t 97 (by kernel_rfl) rfl) (g_loadW (hW.low _ _ hA.w') (hMk e hlt) ag4) rfl (v118 rfl ?_)
          refine wN rfl rfl rfl (v118 rfl ?_)
          refine we rfl ?_
          refine vc_cond rfl (fun hc101 => ?_) (fun hc101 => ?_)
          ·
           have hmk : mk l a.toNat (l.length - a.toNat) p e = true := hc101
           refine vc_skip (n_then (vc_block (vs ?_)))
           have hBc : (B.map (fun x => [x]))[e]? = s.1[e]? := by rw [hI.cel]
           obtain ⟨w, hw⟩ : ∃ w, s.1[e]? = some [.int .u8 w] := by
            have h1 : e < s.1.length := by rw [hI.ok.1]; exact hlt
            obtain ⟨w, hw⟩ := hI.ok.2 _ (List.getElem_mem h1)
            exact ⟨w, by rw [List.getElem?_eq_getElem h1, hw]⟩
           have hBe : B[e]? = some (.int .u8 w) := by
            rw [hw, List.getElem?_map] at hBc
            obtain ⟨y, h1, h2⟩ := Option.map_eq_some_iff.1 hBc
            cases h2
            exact h1
           obtain ⟨Lb, hbv, hLb, hacb⟩ := hW.p.opn Hw.length (by have := lt_of hW.q; omega)
           subst hbv
           refine w_regionD (by kernel_rfl) ?_
           refine dN (v := .ptr Hz.length 0 2) rfl rfl rfl (d118 rfl ?_)
           refine dN (v := pval Lb ((s.1.drop i).take (e - i))) rfl (g_load hW.q rfl rfl) rfl (d118 rfl ?_)
           refine dN rfl rfl rfl (d118 rfl ?_)
           refine dN (v := .ptr (Hx.length + 1) 0 e) rfl ((by have h9 := g_indexA (H := Hw) (l := (Hx.length + 1)) (i := 0) (k := 0) (kk := .i64) el109 (show 0 ≤ (e : Int) by omega) (by omega); rw [show 0 + (e : Int).toNat * 1 = e by omega] at h9; exact h9)) rfl (d118 rfl ?_)
           refine dN (v := .int .u8 w) rfl (g_loadW (hW.low _ _ hBz) hBe ag5) rfl (d118 rfl ?_)
           refine dN (v := .list .tight [[.int .u8 w]]) rfl (rfl) rfl (d118 rfl ?_)
           refine d_opH (v := .row false Hw.length 0 (((s.1.drop i).take (e - i)).length + 1)) (env' := _) (H2 := (Hw.set Lb .dead ++ [VO.arr 5 1 (((s.1.drop i).take (e - i)) ++ [[.int .u8 w]])])) rfl (accR (n := Hw.length) (H := Hw) (L := Lb) (pgs := ((s.1.drop i).take (e - i))) (news := [[.int .u8 w]]) (x := .list .tight [[.int .u8 w]]) (e := 5) hacb rfl el68 Tryz.underlying68 rfl zc5 by5 rfl rfl (by decide) (by decide) rfl rfl (by simp) (by simp; omega)) (.inl rfl) rfl (rfl) (fun _ h => h) (d118 rfl ?_)
           refine dN (v := .ptr Hz.length 0 2) rfl rfl rfl (d118 rfl ?_)
           refine d_op0 (H2 := ((Hw.set Lb .dead ++ [VO.arr 5 1 (((s.1.drop i).take (e - i)) ++ [[.int .u8 w]])]).set Hz.length (VO.arr 108 3 [[.int .i64 (p : Int), .int .i64 (i : Int), .row false Hw.length 0 (((s.1.drop i).take (e - i)).length + 1)]]))) rfl (g_store (get_app (get_set hW.q (by omega))) rfl rfl sz68 ⟨rfl, by simp, by decide⟩) (.inl rfl) (rfl) (fun _ h => h) ?_
           refine d_end rfl (wr ?_)
           iterate 3 refine wN rfl rfl rfl (v118 rfl ?_)
           refine w_endB rfl (n_then ?_)
           refine hY4 ⟨(e + 1, _, _), by show i ≤ e + 1; omega, hlt, by show runEnd _ (e + 1) = _; rw [runEnd_go hlt hmk]; exact hre, by show BI _ _ _ _ ((s.1.drop i).take (e + 1 - i)) _ _; rw [← take_next hie hw]; exact hW.next hLb hacb⟩ (by simp only; omega) _ _ ?_ rfl
           repeat' first | exact trivial | refine ⟨.inr rfl, ?_⟩ | refine ⟨.inl rfl, ?_⟩ | refine ⟨.inl ?_, ?_⟩ | fail
           all_goals first | exact (int_succ (by omega)).symm
          ·
           have hend : runEnd (mk l a.toNat (l.length - a.toNat) p) i = e := by rw [← hre]; exact runEnd_stop (by rw [show mk l a.toNat (l.length - a.toNat) p e = false by simpa using hc101]; simp)
           have hlt2 : i < e := by rcases Nat.lt_or_eq_of_le hie with h | h; exact h; subst h; exact absurd hend (by rw [← runEnd_go hi128 hgi]; have := (runEnd_le (mk l a.toNat (l.length - a.toNat) p) (i + 1)).1; omega)
           refine vc_exit (x_then (x_then (x_same (n_then ?_))))
           have hbl : ((s.1.drop i).take (e - i)).length = e - i := by simp; have := hI.ok.1; omega
           obtain ⟨Lb, hbv, hLb, hLb2⟩ := hW.p
           have hbne : ((s.1.drop i).take (e - i)) ≠ [] := fun h => by rw [h] at hbl; simp at hbl; omega
           subst hbv
           have hbyt := hLb2.resolve_left hbne
           have hWq : Hw[Hz.length]? = some (.arr 108 3 [[.int .i64 (p : Int), .int .i64 (i : Int), .row false Lb 0 ((s.1.drop i).take (e - i)).length]]) := by have := hW.q; rw [pval, if_neg hbne] at this; exact this
           obtain ⟨Lp, hv, hLp, hacc⟩ := (hA.p.keep fun L2 _ h3 => hW.low _ _ h3).opn (Hw.length + 1) (Nat.zero_le _)
           subst hv
           have hrl : rows.length ≤ 129 * 120 := by
            obtain ⟨ps, hp1, hp2⟩ := hA.r
            have h1 := congrArg List.length hp2
            rw [List.length_append] at h1
            have h2 := gatP_length (g := (mk l a.toNat (l.length - a.toNat))) (sh := (fwd l zeroSh a.toNat (l.length - a.toNat))) (p + 1)
            have h3 := hp1.len
            omega
           refine wr ?_
           refine wN rfl rfl rfl (v118 rfl ?_)
           refine wN (v := .agg [.int .i64 (p : Int), .int .i64 (i : Int), .row false Lb 0 ((s.1.drop i).take (e - i)).length]) rfl (g_load hWq rfl rfl) rfl (v118 rfl ?_)
           refine w_opH (v := .row true Hw.length 0 1) (env' := _) (H2 := (Hw ++ [VO.arr 108 3 [[.int .i64 (p : Int), .int .i64 (i : Int), .row false Lb 0 ((s.1.drop i).take (e - i)).length]]])) rfl (g_build1 (H := Hw) (x := .agg [.int .i64 (p : Int), .int .i64 (i : Int), .row false Lb 0 ((s.1.drop i).take (e - i)).length]) (cs := [.int .i64 (p : Int), .int .i64 (i : Int), .row false Lb 0 ((s.1.drop i).take (e - i)).length]) el52 zc108 (by decide) rfl rfl rfl) rfl (rfl) (fun _ h => h) (v118 rfl ?_)
           refine w_opH (v := .row false (Hw.length + 1) 0 (rows.length + 1)) (env' := _) (H2 := ((Hw ++ [VO.arr 108 3 [[.int .i64 (p : Int), .int .i64 (i : Int), .row false Lb 0 ((s.1.drop i).take (e - i)).length]]]).set Lp .dead ++ [VO.arr 108 3 (rows ++ [[.int .i64 (p : Int), .int .i64 (i : Int), .row false Lb 0 ((s.1.drop i).take (e - i)).length]])])) rfl (accR (n := Hw.length + 1) (H := (Hw ++ [VO.arr 108 3 [[.int .i64 (p : Int), .int .i64 (i : Int), .row false Lb 0 ((s.1.drop i).take (e - i)).length]]])) (L := Lp) (pgs := rows) (news := [[.int .i64 (p : Int), .int .i64 (i : Int), .row false Lb 0 ((s.1.drop i).take (e - i)).length]]) (x := .row true Hw.length 0 1) (e := 108) (hacc.imp (fun h => ⟨h.1, by simp; exact h.2⟩) (fun h => ⟨h.1, get_app h.2⟩)) (by simp) el52 Tryz.underlying52 rfl zc108 by108 (row_all (rows := [[.int .i64 (p : Int), .int .i64 (i : Int), .row false Lb 0 ((s.1.drop i).take (e - i)).length]]) get_last) rfl (by decide) (by decide) rfl rfl (by simp) (by simp; have := hrl; omega)) rfl (rfl) (fun _ h => h) (v118 rfl ?_)
           refine wN rfl rfl rfl (v118 rfl ?_)
           refine w_endB rfl (n_then (wr ?_))
           iterate 3 refine wN rfl rfl rfl (v118 rfl ?_)
           refine we rfl ?_
           refine hY3 ⟨(e + 1, _, _, _), AI.next2 hA (arr_ne (by decide)) hi128 hend hlt2 (by have := hI.ok.1; omega) hI.ok.2 hW.low hbyt hacc, keep1 hacc (hW.low _ _ hBz) (arr_ne (by decide))⟩ (by simp only; omega) _ _ ?_ rfl
           repeat' first | exact trivial | refine ⟨.inr rfl, ?_⟩ | refine ⟨.inl rfl, ?_⟩ | refine ⟨.inl ?_, ?_⟩ | fail
           all_goals first | exact (int_succ (by omega)).symm
         ·
          have hend : runEnd (mk l a.toNat (l.length - a.toNat) p) i = e := by rw [← hre]; exact runEnd_stop (by have := of_decide_eq_false hg97; omega)
          have hlt2 : i < e := by rcases Nat.lt_or_eq_of_le hie with h | h; exact h; subst h; exact absurd hend (by rw [← runEnd_go hi128 hgi]; have := (runEnd_le (mk l a.toNat (l.length - a.toNat) p) (i + 1)).1; omega)
          refine v118 rfl ?_
          iterate 3 refine wS (wanted_f 97 (by kernel_rfl) rfl) (v118 rfl ?_)
          refine wN rfl rfl rfl (v118 rfl ?_)
          refine we rfl ?_
          refine vc_false rfl ?_
          refine vc_exit (x_then (x_then (x_same (n_then ?_))))
          have hbl : ((s.1.drop i).take (e - i)).length = e - i := by simp; have := hI.ok.1; omega
          obtain ⟨Lb, hbv, hLb, hLb2⟩ := hW.p
          have hbne : ((s.1.drop i).take (e - i)) ≠ [] := fun h => by rw [h] at hbl; simp at hbl; omega
          subst hbv
          have hbyt := hLb2.resolve_left hbne
          have hWq : Hw[Hz.length]? = some (.arr 108 3 [[.int .i64 (p : Int), .int .i64 (i : Int), .row false Lb 0 ((s.1.drop i).take (e - i)).length]]) := by have := hW.q; rw [pval, if_neg hbne] at this; exact this
          obtain ⟨Lp, hv, hLp, hacc⟩ := (hA.p.keep fun L2 _ h3 => hW.low _ _ h3).opn (Hw.length + 1) (Nat.zero_le _)
          subst hv
          have hrl : rows.length ≤ 129 * 120 := by
           obtain ⟨ps, hp1, hp2⟩ := hA.r
           have h1 := congrArg List.length hp2
           rw [List.length_append] at h1
           have h2 := gatP_length (g := (mk l a.toNat (l.length - a.toNat))) (sh := (fwd l zeroSh a.toNat (l.length - a.toNat))) (p + 1)
           have h3 := hp1.len
           omega
          refine wr ?_
          refine wN rfl rfl rfl (v118 rfl ?_)
          refine wN (v := .agg [.int .i64 (p : Int), .int .i64 (i : Int), .row false Lb 0 ((s.1.drop i).take (e - i)).length]) rfl (g_load hWq rfl rfl) rfl (v118 rfl ?_)
          refine w_opH (v := .row true Hw.length 0 1) (env' := _) (H2 := (Hw ++ [VO.arr 108 3 [[.int .i64 (p : Int), .int .i64 (i : Int), .row false Lb 0 ((s.1.drop i).take (e - i)).length]]])) rfl (g_build1 (H := Hw) (x := .agg [.int .i64 (p : Int), .int .i64 (i : Int), .row false Lb 0 ((s.1.drop i).take (e - i)).length]) (cs := [.int .i64 (p : Int), .int .i64 (i : Int), .row false Lb 0 ((s.1.drop i).take (e - i)).length]) el52 zc108 (by decide) rfl rfl rfl) rfl (rfl) (fun _ h => h) (v118 rfl ?_)
          refine w_opH (v := .row false (Hw.length + 1) 0 (rows.length + 1)) (env' := _) (H2 := ((Hw ++ [VO.arr 108 3 [[.int .i64 (p : Int), .int .i64 (i : Int), .row false Lb 0 ((s.1.drop i).take (e - i)).length]]]).set Lp .dead ++ [VO.arr 108 3 (rows ++ [[.int .i64 (p : Int), .int .i64 (i : Int), .row false Lb 0 ((s.1.drop i).take (e - i)).length]])])) rfl (accR (n := Hw.length + 1) (H := (Hw ++ [VO.arr 108 3 [[.int .i64 (p : Int), .int .i64 (i : Int), .row false Lb 0 ((s.1.drop i).take (e - i)).length]]])) (L := Lp) (pgs := rows) (news := [[.int .i64 (p : Int), .int .i64 (i : Int), .row false Lb 0 ((s.1.drop i).take (e - i)).length]]) (x := .row true Hw.length 0 1) (e := 108) (hacc.imp (fun h => ⟨h.1, by simp; exact h.2⟩) (fun h => ⟨h.1, get_app h.2⟩)) (by simp) el52 Tryz.underlying52 rfl zc108 by108 (row_all (rows := [[.int .i64 (p : Int), .int .i64 (i : Int), .row false Lb 0 ((s.1.drop i).take (e - i)).length]]) get_last) rfl (by decide) (by decide) rfl rfl (by simp) (by simp; have := hrl; omega)) rfl (rfl) (fun _ h => h) (v118 rfl ?_)
          refine wN rfl rfl rfl (v118 rfl ?_)
          refine w_endB rfl (n_then (wr ?_))
          iterate 3 refine wN rfl rfl rfl (v118 rfl ?_)
          refine we rfl ?_
          refine hY3 ⟨(e + 1, _, _, _), AI.next2 hA (arr_ne (by decide)) hi128 hend hlt2 (by have := hI.ok.1; omega) hI.ok.2 hW.low hbyt hacc, keep1 hacc (hW.low _ _ hBz) (arr_ne (by decide))⟩ (by simp only; omega) _ _ ?_ rfl
          repeat' first | exact trivial | refine ⟨.inr rfl, ?_⟩ | refine ⟨.inl rfl, ?_⟩ | refine ⟨.inl ?_, ?_⟩ | fail
          all_goals first | exact (int_succ (by omega)).symm
       ·
        have hi128 : ¬ i < 128 := by have := of_decide_eq_false hc85; omega
        refine vc_exit (x_then (x_then (x_same (n_block (n_then (wr ?_))))))
        iterate 3 refine wN rfl rfl rfl (v118 rfl ?_)
        refine we rfl ?_
        refine hY0 ⟨(p + 1, _, _, _, _), OI2.fin hA hi128 hp⟩ (by simp only; omega) _ _ ?_ rfl
        repeat' first | exact trivial | refine ⟨.inr rfl, ?_⟩ | refine ⟨.inl rfl, ?_⟩ | refine ⟨.inl ?_, ?_⟩ | fail
        all_goals first | exact (int_succ (by omega)).symm
    ·
     have hp : p = 120 := by have := of_decide_eq_false hc32; have := hO.le; omega
     subst hp
     refine vc_exit (x_then (x_then (x_same (n_then (vs (wr ?_))))))
     iterate 5 refine wN rfl rfl rfl (v118 rfl ?_)
     refine we rfl (vc_ret (r_fn rfl ?_))
     rw [gatherR, if_pos hs, if_neg (by omega)]
     obtain ⟨L1, hv1, _, h12⟩ := hO.p
     obtain ⟨L2, hu1, _, h13⟩ := hO.s
     rw [hv1, hu1]
     exact ret_tup3 (hO.r.ret h12) (ret_ints (stmP_int 120) h13) rfl
end Lay
end Go.Vi
namespace Go.Vi
open Go Go.Vi Go.Proofs
def calleeZ (o : Oper) : Nat := match o.op with
 | .call { callee := .value (.func f), .. } => f
 | _ => 1000
def mdZ (f : Nat) (o : Oper) : Md := match o.op with
 | .alloc _ => if f = 10 then .shf else .iso
 | .buildSlice .. => if f = 100 ∧ o.dst ≠ some 89 ∧ o.dst ≠ some 95 then .shr else .iso
 | _ => if (calleeZ o) ∈ [35, 38, 72, 129] then .shr else .iso
theorem zFirst_run (G : Glob) : (erun Tryz.prog mdZ G 200 20 9 [] []).map (·.1) = some (.bool true) := by kernel_rfl
theorem zFirst (G : Glob) : Vi.Fn Tryz.prog G 9 [] (.bool true) := by
 obtain ⟨⟨r, H⟩, h1, h2⟩ := Option.map_eq_some_iff.1 (zFirst_run G)
 simp only at h2
 subst h2
 refine XS.mono (erun_ok Tryz.prog mdZ G 200 20 9 [] [] _ H h1) ?_
 rintro r1 H1 ⟨rfl, rfl⟩
 rfl
end Go.Vi
namespace Go.Vi
open Go Go.Vi Go.Proofs
attribute [local irreducible] vops vopsD vc
namespace Lay
def StOkL (n : Int) (sh : List Sheet) : Prop := ∀ s ∈ sh, 0 ≤ s.2 ∧ s.2 ≤ n
theorem StOkL.upd {n m : Int} {sh : List Sheet} {i : Nat} {f : Sheet → Sheet} (h : StOkL n sh) (hn : n ≤ m) (hf : ∀ s, 0 ≤ (f s).2 ∧ (f s).2 ≤ m) : StOkL m (updS sh i f) := by
 unfold updS
 split
 · rename_i s hs
   intro s' hs'
   rcases List.mem_or_eq_of_mem_set hs' with h1 | rfl
   · have := h s' h1; omega
   · exact hf s
 · intro s hs; have := h s hs; omega
end Lay
end Go.Vi
namespace Go.Vi
open Go Go.Vi Go.Proofs
attribute [local irreducible] vops vopsD vc
namespace Lay
def GPc (r : List AV) : Prop := ∃ p a b, r = [.int .i64 p, .int .i64 a, b] ∧ IsL b ∧ (lrows b).length < 9223372036854775808 ∧ ∀ q ∈ lrows b, ∃ v, q = [AV.int .u8 v]
theorem pcs_mem {g : Nat → Bool} {b : List (List AV)} {p : Nat} (hb : Bs b) (hl : b.length = 128) (i : Nat) : ∀ r ∈ pcs g b p i, GPc r := by
 by_cases h : i < 128
 · have h1 := (runEnd_le g i).1
   have ih := pcs_mem (g := g) (p := p) hb hl (runEnd g i + 1)
   by_cases hh : i < runEnd g i
   · rw [pcs_run h rfl hh]
     intro r hr
     rcases List.mem_cons.1 hr with rfl | hr
     · exact ⟨_, _, _, rfl, .inr ⟨_, _, rfl⟩, by show ((b.drop i).take (runEnd g i - i)).length < _; simp; omega, fun q hq => hb q (List.mem_of_mem_drop (List.mem_of_mem_take hq))⟩
     · exact ih r hr
   · have he : runEnd g i = i := by omega
     rw [he] at ih
     rw [pcs_next h he]
     exact ih
 · rw [pcs_stop h]
   intro r hr
   cases hr
termination_by 128 - i
decreasing_by have := (runEnd_le g i).1; omega
theorem gatP_mem {g : Nat → Nat → Bool} {sh : List Sheet} (h : ShOk sh) : ∀ k, ∀ r ∈ gatP g sh k, GPc r
 | 0, r, hr => by cases hr
 | k + 1, r, hr => by
   simp only [gatP, List.mem_append] at hr
   rcases hr with hr | hr
   · exact gatP_mem h k r hr
   · split at hr
     · rename_i s hs
       have := h s (List.mem_of_getElem? hs)
       exact pcs_mem this.2 this.1 0 r hr
     · cases hr
theorem lv_rows {rows : List (List AV)} : lrows (lv rows) = rows := by
 unfold lv
 split
 · rename_i h; rw [h]; rfl
 · rfl
theorem lv_isL {rows : List (List AV)} : IsL (lv rows) := by
 unfold lv
 split
 · exact .inl rfl
 · exact .inr ⟨_, _, rfl⟩
def GatOk (v : AV) : Prop := ∃ x y e, v = .tup [x, y, .int .i64 e] ∧ IsL x ∧ (lrows x).length < 9223372036854775808 ∧ (∀ r ∈ lrows x, GPc r) ∧ IsL y ∧ (lrows y).length < 9223372036854775808 ∧ ∀ r ∈ lrows y, ∃ v, r = [AV.int .i64 v]
theorem gat_err (e : Int) : GatOk (.tup [.nils, .nils, .int .i64 e]) := ⟨_, _, _, rfl, .inl rfl, by simp [lrows], fun r hr => by simp [lrows] at hr, .inl rfl, by simp [lrows], fun r hr => by simp [lrows] at hr⟩
theorem gatherR_ok {x : AV} {l : List Rc} (hx : Recs x l) (a : Int) : GatOk (gatherR l a) := by
 unfold gatherR
 split
 · rename_i hs
   split
   · exact gat_err 2
   · have hR := sound_in hx hs
     have h1 := gatP_length (g := mk l a.toNat (l.length - a.toNat)) (sh := fwd l zeroSh a.toNat (l.length - a.toNat)) 120
     have h2 := stmP_length (sh := fwd l zeroSh a.toNat (l.length - a.toNat)) 120
     exact ⟨_, _, _, rfl, lv_isL, by rw [lv_rows]; omega, by rw [lv_rows]; exact gatP_mem (fwd_ok hR zeroSh_ok) 120, lv_isL, by rw [lv_rows]; omega, by rw [lv_rows]; exact stmP_int 120⟩
 · exact gat_err 50
set_option maxHeartbeats 8000000 in
theorem sSameP (G : Glob) (x : AV) (hL : IsL x) (hlen : (lrows x).length < 9223372036854775808) (hp : ∀ r ∈ lrows x, GPc r) : Vi.Fn Tryz.prog G 29 [x, x] (.bool true) := by
 refine fn_body (fun _ => .iso) Tryz.func29 rfl ?_
 refine vc_norm (env' := (_ :: _ :: _ :: _ :: _ :: _ :: _ :: _ :: _ :: _ :: _ :: _ :: _ :: _ :: _ :: _ :: _ :: _ :: _ :: _ :: _ :: _ :: _ :: _ :: _ :: _ :: _ :: _ :: _ :: _ :: _ :: _ :: _ :: _ :: _ :: _ :: _ :: _ :: _ :: _ :: _ :: _ :: _ :: _ :: _ :: _ :: _ :: _ :: _ :: _ :: _ :: _ :: _ :: _ :: _ :: [])) (H' := []) rfl rfl ?_
 refine vs (wr ?_)
 refine wN rfl rfl rfl (v55 rfl ?_)
 refine we rfl (vs (vs (wr ?_)))
 refine wN rfl rfl rfl (v55 rfl ?_)
 first | refine wN rfl rfl rfl (v55 rfl ?_) | refine x_len rfl rfl ‹_› Tryz.underlying52 rfl (v55 rfl ?_)
 refine wN rfl rfl rfl (v55 rfl ?_)
 first | refine wN rfl rfl rfl (v55 rfl ?_) | refine x_len rfl rfl ‹_› Tryz.underlying52 rfl (v55 rfl ?_)
 refine wN rfl rfl rfl (v55 rfl ?_)
 refine we rfl ?_
 refine vc_cond rfl (fun hc10 => ?_) (fun hc10 => ?_)
 ·
  simp at hc10
 ·
  refine vc_skip (n_then (vs (vs (wr ?_))))
  refine wN rfl rfl rfl (v55 rfl ?_)
  refine we rfl (vc_block ?_)
  refine vc_loopU (α := { i : Nat // i ≤ (lrows x).length }) (fun i => (rnone 4 ++ ([some .undef, some (.int .i64 (i.1 : Nat))] ++ (rnone 5 ++ (rundef 44))))) (fun i => (lrows x).length - i.1) ⟨0, by omega⟩ (by repeat' first | exact trivial | refine ⟨.inr rfl, ?_⟩ | refine ⟨.inl rfl, ?_⟩ | fail) (fun _ => ⟨Nat.zero_le _, (by repeat' first | exact trivial | exact IsL.belowV ‹_› | refine ⟨?_, ?_⟩ | exact IsL.below ‹_› | (simp [valB, leafB, cellsB, IsL.below, *]; done) | (simp [valB, leafB, cellsB, IsL.below, *]; omega) | fail), (by repeat' first | exact trivial | exact IsL.below (by assumption) | refine ⟨?_, ?_⟩ | (simp [leafB]; done))⟩) ?_
  rintro ⟨i, hi⟩ Y0 hY0
  refine vc_norm (env' := (_ :: _ :: _ :: _ :: _ :: _ :: _ :: _ :: _ :: _ :: _ :: _ :: _ :: _ :: _ :: _ :: _ :: _ :: _ :: _ :: _ :: _ :: _ :: _ :: _ :: _ :: _ :: _ :: _ :: _ :: _ :: _ :: _ :: _ :: _ :: _ :: _ :: _ :: _ :: _ :: _ :: _ :: _ :: _ :: _ :: _ :: _ :: _ :: _ :: _ :: _ :: _ :: _ :: _ :: _ :: [])) (H' := []) rfl rfl ?_
  refine vs (vs (wr ?_))
  iterate 2 refine wN rfl rfl rfl (v55 rfl ?_)
  first | refine wN rfl rfl rfl (v55 rfl ?_) | refine x_len rfl rfl ‹_› Tryz.underlying52 rfl (v55 rfl ?_)
  refine wN rfl rfl rfl (v55 rfl ?_)
  refine we rfl ?_
  refine vc_cond rfl (fun hc14 => ?_) (fun hc14 => ?_)
  ·
   have hlt : i < (lrows x).length := by simpa using hc14
   have hri : (lrows x)[i]? = some (lrows x)[i] := List.getElem?_eq_getElem hlt
   obtain ⟨p, a, b, hx, hLb, hb1, hb2⟩ := hp _ (List.getElem_mem hlt)
   rw [hx] at hri
   refine vc_skip (n_then (vs (vc_block (vs (w_regionD (by kernel_rfl) ?_)))))
   iterate 2 refine dN rfl rfl rfl (d55 rfl ?_)
   first | refine dN (v := .iptr _ [_, _, _]) rfl rfl rfl (d55 rfl ?_) | (refine y_index rfl rfl ‹_› rfl el52 (by omega) ‹_› rfl (fun bo => ?_); refine d55 rfl ?_)
   refine dN (v := .iptr _ [_, _, _]) rfl rfl rfl (d55 rfl ?_)
   iterate 3 refine dN rfl rfl rfl (d55 rfl ?_)
   first | refine dN (v := .iptr _ [_, _, _]) rfl rfl rfl (d55 rfl ?_) | (refine y_index rfl rfl ‹_› rfl el52 (by omega) ‹_› rfl (fun bo => ?_); refine d55 rfl ?_)
   refine dN (v := .iptr _ [_, _, _]) rfl rfl rfl (d55 rfl ?_)
   iterate 3 refine dN rfl rfl rfl (d55 rfl ?_)
   refine d_split 28 rfl (fun hg28 => ?_) (fun hg28 => ?_)
   ·
    simp at hg28
   ·
    refine d55 rfl ?_
    iterate 2 refine dN (wanted_t 28 (by kernel_rfl) rfl) rfl rfl (d55 rfl ?_)
    first | refine dN (v := .iptr _ [_, _, _]) (wanted_t 28 (by kernel_rfl) rfl) rfl rfl (d55 rfl ?_) | (refine y_index (wanted_t 28 (by kernel_rfl) rfl) rfl ‹_› rfl el52 (by omega) ‹_› rfl (fun bo => ?_); refine d55 rfl ?_)
    refine dN (v := .iptr _ [_, _]) (wanted_t 28 (by kernel_rfl) rfl) rfl rfl (d55 rfl ?_)
    iterate 3 refine dN (wanted_t 28 (by kernel_rfl) rfl) rfl rfl (d55 rfl ?_)
    first | refine dN (v := .iptr _ [_, _, _]) (wanted_t 28 (by kernel_rfl) rfl) rfl rfl (d55 rfl ?_) | (refine y_index (wanted_t 28 (by kernel_rfl) rfl) rfl ‹_› rfl el52 (by omega) ‹_› rfl (fun bo => ?_); refine d55 rfl ?_)
    refine dN (v := .iptr _ [_, _]) (wanted_t 28 (by kernel_rfl) rfl) rfl rfl (d55 rfl ?_)
    iterate 2 refine dN (wanted_t 28 (by kernel_rfl) rfl) rfl rfl (d55 rfl ?_)
    iterate 2 refine dN rfl rfl rfl (d55 rfl ?_)
    refine d_split 41 rfl (fun hg41 => ?_) (fun hg41 => ?_)
    ·
     simp at hg41
    ·
     refine d55 rfl ?_
     iterate 2 refine dN (wanted_t 41 (by kernel_rfl) rfl) rfl rfl (d55 rfl ?_)
     first | refine dN (v := .iptr _ [_, _, _]) (wanted_t 41 (by kernel_rfl) rfl) rfl rfl (d55 rfl ?_) | (refine y_index (wanted_t 41 (by kernel_rfl) rfl) rfl ‹_› rfl el52 (by omega) ‹_› rfl (fun bo => ?_); refine d55 rfl ?_)
     refine dN (v := .iptr _ [_]) (wanted_t 41 (by kernel_rfl) rfl) rfl rfl (d55 rfl ?_)
     iterate 3 refine dN (wanted_t 41 (by kernel_rfl) rfl) rfl rfl (d55 rfl ?_)
     first | refine dN (v := .iptr _ [_, _, _]) (wanted_t 41 (by kernel_rfl) rfl) rfl rfl (d55 rfl ?_) | (refine y_index (wanted_t 41 (by kernel_rfl) rfl) rfl ‹_› rfl el52 (by omega) ‹_› rfl (fun bo => ?_); refine d55 rfl ?_)
     refine dN (v := .iptr _ [_]) (wanted_t 41 (by kernel_rfl) rfl) rfl rfl (d55 rfl ?_)
     refine dN (wanted_t 41 (by kernel_rfl) rfl) rfl rfl (d55 rfl ?_)
     refine d_callI (env' := _) (wanted_t 41 (by kernel_rfl) rfl) rfl rfl (by kernel_rfl) rfl (by repeat' first | exact IsL.lend ‹_› | exact IsL.lend0 ‹_› | refine mapL_cons ?_ ?_ | refine lend_agg ?_ | rfl) (t18 G b hLb hb1 hb2) rfl (d55 rfl ?_)
     refine dN (wanted_t 41 (by kernel_rfl) rfl) rfl rfl (d55 rfl ?_)
     refine dN rfl rfl rfl (d55 rfl ?_)
     refine d_end rfl ?_
     refine vc_cond rfl (fun hc54 => ?_) (fun hc54 => ?_)
     ·
      simp at hc54
     ·
      refine vc_skip (n_block (n_then (wr ?_)))
      iterate 3 refine wN rfl rfl rfl (v55 rfl ?_)
      refine we rfl ?_
      refine hY0 ⟨i + 1, hlt⟩ (by simp only; omega) _ _ _ ?_ rfl
      repeat' first | exact trivial | refine ⟨.inr rfl, ?_⟩ | refine ⟨.inl rfl, ?_⟩ | refine ⟨.inl ?_, ?_⟩ | fail
      all_goals first | exact (int_succ (by omega)).symm
  ·
   refine vc_exit (x_then (x_then (x_same (n_then (vs (wr ?_))))))
   refine wN rfl rfl rfl (v55 rfl ?_)
   refine we rfl (vc_ret (r_fn rfl ?_))
   rfl
set_option maxHeartbeats 8000000 in
theorem sSameI (G : Glob) (x : AV) (hL : IsL x) (hlen : (lrows x).length < 9223372036854775808) (hp : ∀ r ∈ lrows x, ∃ v, r = [AV.int .i64 v]) : Vi.Fn Tryz.prog G 17 [x, x] (.bool true) := by
 refine fn_body (fun _ => .iso) Tryz.func17 rfl ?_
 refine vc_norm (env' := (_ :: _ :: _ :: _ :: _ :: _ :: _ :: _ :: _ :: _ :: _ :: _ :: _ :: _ :: _ :: _ :: _ :: _ :: _ :: _ :: _ :: _ :: _ :: _ :: _ :: _ :: [])) (H' := []) rfl rfl ?_
 refine vs (wr ?_)
 refine wN rfl rfl rfl (v26 rfl ?_)
 refine we rfl (vs (vs (wr ?_)))
 refine wN rfl rfl rfl (v26 rfl ?_)
 first | refine wN rfl rfl rfl (v26 rfl ?_) | refine x_len rfl rfl ‹_› Tryz.underlying35 rfl (v26 rfl ?_)
 refine wN rfl rfl rfl (v26 rfl ?_)
 first | refine wN rfl rfl rfl (v26 rfl ?_) | refine x_len rfl rfl ‹_› Tryz.underlying35 rfl (v26 rfl ?_)
 refine wN rfl rfl rfl (v26 rfl ?_)
 refine we rfl ?_
 refine vc_cond rfl (fun hc10 => ?_) (fun hc10 => ?_)
 ·
  simp at hc10
 ·
  refine vc_skip (n_then (vs (vs (wr ?_))))
  refine wN rfl rfl rfl (v26 rfl ?_)
  refine we rfl (vc_block ?_)
  refine vc_loopU (α := { i : Nat // i ≤ (lrows x).length }) (fun i => (rnone 4 ++ ([some .undef, some (.int .i64 (i.1 : Nat))] ++ (rnone 5 ++ (rundef 15))))) (fun i => (lrows x).length - i.1) ⟨0, by omega⟩ (by repeat' first | exact trivial | refine ⟨.inr rfl, ?_⟩ | refine ⟨.inl rfl, ?_⟩ | fail) (fun _ => ⟨Nat.zero_le _, (by repeat' first | exact trivial | exact IsL.belowV ‹_› | refine ⟨?_, ?_⟩ | exact IsL.below ‹_› | (simp [valB, leafB, cellsB, IsL.below, *]; done) | (simp [valB, leafB, cellsB, IsL.below, *]; omega) | fail), (by repeat' first | exact trivial | exact IsL.below (by assumption) | refine ⟨?_, ?_⟩ | (simp [leafB]; done))⟩) ?_
  rintro ⟨i, hi⟩ Y0 hY0
  refine vc_norm (env' := (_ :: _ :: _ :: _ :: _ :: _ :: _ :: _ :: _ :: _ :: _ :: _ :: _ :: _ :: _ :: _ :: _ :: _ :: _ :: _ :: _ :: _ :: _ :: _ :: _ :: _ :: [])) (H' := []) rfl rfl ?_
  refine vs (vs (wr ?_))
  iterate 2 refine wN rfl rfl rfl (v26 rfl ?_)
  first | refine wN rfl rfl rfl (v26 rfl ?_) | refine x_len rfl rfl ‹_› Tryz.underlying35 rfl (v26 rfl ?_)
  refine wN rfl rfl rfl (v26 rfl ?_)
  refine we rfl ?_
  refine vc_cond rfl (fun hc14 => ?_) (fun hc14 => ?_)
  ·
   have hlt : i < (lrows x).length := by simpa using hc14
   have hri : (lrows x)[i]? = some (lrows x)[i] := List.getElem?_eq_getElem hlt
   obtain ⟨v, hx⟩ := hp _ (List.getElem_mem hlt)
   rw [hx] at hri
   refine vc_skip (n_then (vs (vc_block (vs (w_regionD (by kernel_rfl) ?_)))))
   iterate 2 refine dN rfl rfl rfl (d26 rfl ?_)
   first | refine dN (v := .iptr _ [_]) rfl rfl rfl (d26 rfl ?_) | (refine y_index rfl rfl ‹_› rfl el35 (by omega) ‹_› rfl (fun bo => ?_); refine d26 rfl ?_)
   iterate 3 refine dN rfl rfl rfl (d26 rfl ?_)
   first | refine dN (v := .iptr _ [_]) rfl rfl rfl (d26 rfl ?_) | (refine y_index rfl rfl ‹_› rfl el35 (by omega) ‹_› rfl (fun bo => ?_); refine d26 rfl ?_)
   iterate 2 refine dN rfl rfl rfl (d26 rfl ?_)
   refine d_end rfl ?_
   refine vc_cond rfl (fun hc25 => ?_) (fun hc25 => ?_)
   ·
    simp at hc25
   ·
    refine vc_skip (n_block (n_then (wr ?_)))
    iterate 3 refine wN rfl rfl rfl (v26 rfl ?_)
    refine we rfl ?_
    refine hY0 ⟨i + 1, hlt⟩ (by simp only; omega) _ _ _ ?_ rfl
    repeat' first | exact trivial | refine ⟨.inr rfl, ?_⟩ | refine ⟨.inl rfl, ?_⟩ | refine ⟨.inl ?_, ?_⟩ | fail
    all_goals first | exact (int_succ (by omega)).symm
  ·
   refine vc_exit (x_then (x_then (x_same (n_then (vs (wr ?_))))))
   refine wN rfl rfl rfl (v26 rfl ?_)
   refine we rfl (vc_ret (r_fn rfl ?_))
   rfl
set_option maxHeartbeats 8000000 in
theorem lawGathers (G : Glob) (x : AV) (l : List Rc) (hx : Recs x l) (n : Int) : Vi.Fn Tryz.prog G 6 [x, .int .i64 n] (.bool true) := by
 have hL := hx.isL
 have hlx := hx.len
 refine fn_body (fun _ => .iso) Tryz.func6 rfl ?_
 refine vc_norm (env' := (_ :: _ :: _ :: _ :: _ :: _ :: _ :: _ :: _ :: _ :: _ :: _ :: _ :: _ :: _ :: _ :: _ :: _ :: _ :: _ :: _ :: _ :: _ :: _ :: _ :: _ :: _ :: _ :: _ :: _ :: _ :: _ :: _ :: _ :: _ :: _ :: _ :: _ :: _ :: _ :: _ :: _ :: _ :: _ :: [])) (H' := []) rfl rfl ?_
 refine vs (wr ?_)
 refine wN rfl rfl rfl (v44 rfl ?_)
 refine we rfl (vs (vs (wr ?_)))
 refine wN rfl rfl rfl (v44 rfl ?_)
 refine w_callI (env' := _) rfl rfl rfl (by kernel_rfl) rfl (by repeat' first | exact IsL.lend ‹_› | exact IsL.lend0 ‹_› | refine mapL_cons ?_ ?_ | refine lend_agg ?_ | rfl) (sLarge G x l hx) rfl (v44 rfl ?_)
 refine we rfl ?_
 refine vc_cond rfl (fun hc12 => ?_) (fun hc12 => ?_)
 ·
  refine vs (wr ?_)
  refine w_callI (env' := _) rfl rfl rfl (by kernel_rfl) rfl (by repeat' first | exact IsL.lend ‹_› | exact IsL.lend0 ‹_› | refine mapL_cons ?_ ?_ | refine lend_agg ?_ | rfl) (zFirst G) rfl (v44 rfl ?_)
  refine wN rfl rfl rfl (v44 rfl ?_)
  refine we rfl (vc_ret (r_then (r_fn rfl ?_)))
  rfl
 ·
  refine vc_skip (n_then (vs ?_))
  have h40 : l.length ≤ 1000000 := by
   have := (Bool.or_eq_false_iff.1 (show ((List.range l.length).any (largeAt l) || decide ((l.length : Int) > 40)) = false from hc12)).2
   have := of_decide_eq_false this
   omega
  obtain ⟨px, py, e, hr, q1, q2, q3, q4, q5, q6⟩ := gatherR_ok hx n
  have hc1 := bGather G x l hx h40 n
  have hc2 := bGatherR G x l hx h40 n
  rw [hr] at hc1 hc2
  refine wr ?_
  iterate 2 refine wN rfl rfl rfl (v44 rfl ?_)
  refine w_callI (env' := _) rfl rfl rfl (by kernel_rfl) rfl (by repeat' first | exact IsL.lend ‹_› | exact IsL.lend0 ‹_› | refine mapL_cons ?_ ?_ | refine lend_agg ?_ | rfl) (hc1) rfl (v44 rfl ?_)
  iterate 7 refine wN rfl rfl rfl (v44 rfl ?_)
  refine we rfl (vs (wr ?_))
  iterate 2 refine wN rfl rfl rfl (v44 rfl ?_)
  refine w_callI (env' := _) rfl rfl rfl (by kernel_rfl) rfl (by repeat' first | exact IsL.lend ‹_› | exact IsL.lend0 ‹_› | refine mapL_cons ?_ ?_ | refine lend_agg ?_ | rfl) (hc2) rfl (v44 rfl ?_)
  iterate 7 refine wN rfl rfl rfl (v44 rfl ?_)
  refine we rfl (vs (wr ?_))
  iterate 2 refine wN rfl rfl rfl (v44 rfl ?_)
  refine w_callI (env' := _) rfl rfl rfl (by kernel_rfl) rfl (by repeat' first | exact IsL.lend ‹_› | exact IsL.lend0 ‹_› | refine mapL_cons ?_ ?_ | refine lend_agg ?_ | rfl) (sSameP G px q1 q2 q3) rfl (v44 rfl ?_)
  refine wN rfl rfl rfl (v44 rfl ?_)
  refine w_split 31 rfl (fun hg31 => ?_) (fun hg31 => ?_)
  ·
   refine v44 rfl ?_
   iterate 2 refine wN (wanted_t 31 (by kernel_rfl) rfl) rfl rfl (v44 rfl ?_)
   refine w_callI (env' := _) (wanted_t 31 (by kernel_rfl) rfl) rfl rfl (by kernel_rfl) rfl (by repeat' first | exact IsL.lend ‹_› | exact IsL.lend0 ‹_› | refine mapL_cons ?_ ?_ | refine lend_agg ?_ | rfl) (sSameI G py q4 q5 q6) rfl (v44 rfl ?_)
   iterate 2 refine wN rfl rfl rfl (v44 rfl ?_)
   refine w_split 36 rfl (fun hg36 => ?_) (fun hg36 => ?_)
   ·
    refine v44 rfl ?_
    iterate 3 refine wN (wanted_t 36 (by kernel_rfl) rfl) rfl rfl (v44 rfl ?_)
    iterate 2 refine wN rfl rfl rfl (v44 rfl ?_)
    refine w_split 41 rfl (fun hg41 => ?_) (fun hg41 => ?_)
    ·
     refine v44 rfl ?_
     refine w_callI (env' := _) (wanted_t 41 (by kernel_rfl) rfl) rfl rfl (by kernel_rfl) rfl (by repeat' first | exact IsL.lend ‹_› | exact IsL.lend0 ‹_› | refine mapL_cons ?_ ?_ | refine lend_agg ?_ | rfl) (zFirst G) rfl (v44 rfl ?_)
     iterate 2 refine wN rfl rfl rfl (v44 rfl ?_)
     refine we rfl (vc_ret (r_fn rfl ?_))
     rfl
    ·
     simp at hg41
   ·
    cases hg36
  ·
   cases hg31
end Lay
end Go.Vi
namespace Go.Vi
open Go Go.Vi Go.Proofs
namespace Lay
section
variable {P : Program} {f : Nat} {t : TypeId} {xs : List AV}
theorem shp_int {k : IntKind} (hu : P.underlying t = some (.int k)) (h : Shp P f t xs) : ∃ n, xs = [.int k n] := by
 cases f with
 | zero => exact h.elim
 | succ f =>
   unfold Shp at h
   rw [hu] at h
   obtain ⟨n, h1, _⟩ := h
   exact ⟨n, h1⟩
theorem shp_str (hu : P.underlying t = some .string) (h : Shp P f t xs) : ∃ s : ByteArray, xs = [.str s] ∧ s.size < 9223372036854775808 := by
 cases f with
 | zero => exact h.elim
 | succ f =>
   unfold Shp at h
   rw [hu] at h
   obtain ⟨s, h1, h2⟩ := h
   exact ⟨s, h1, by simp only [maxLen] at h2; omega⟩
theorem shp_slice {e : TypeId} (hu : P.underlying t = some (.slice e)) (h : Shp P (f + 1) t xs) : ∃ x, xs = [x] ∧ IsL x ∧ x.isVal = true ∧ (lrows x).length < 9223372036854775808 ∧ ∀ r ∈ lrows x, Shp P f e r := by
 unfold Shp at h
 rw [hu] at h
 rcases h with rfl | ⟨rows, rfl, h1, h2⟩
 · exact ⟨_, rfl, .inl rfl, rfl, by simp [lrows], fun r hr => by simp [lrows] at hr⟩
 · refine ⟨_, rfl, .inr ⟨_, _, rfl⟩, rfl, ?_, fun r hr => (h2 r hr).2⟩
   show rows.length < _
   simp only [maxLen] at h1
   omega
theorem shp_struct {fs : Array Field} (hu : P.underlying t = some (.struct fs)) (h : Shp P (f + 1) t xs) : fieldsS P (Shp P f) fs.toList xs := by
 unfold Shp at h
 rw [hu] at h
 exact h
end
theorem fs_cons {P : Program} {R : TypeId → List AV → Prop} {x : Field} {r : List Field} {xs : List AV} (h : fieldsS P R (x :: r) xs) : ∃ p q, xs = p ++ q ∧ R x.type p ∧ fieldsS P R r q := by
 obtain ⟨p, q, h1, _, h2, h3⟩ := h
 exact ⟨p, q, h1, h2, h3⟩
theorem fs_nil {P : Program} {R : TypeId → List AV → Prop} {xs : List AV} (h : fieldsS P R [] xs) : xs = [] := h
theorem rows_of {α : Type} {enc : α → List AV} {good : α → Prop} : ∀ {rows : List (List AV)}, (∀ r ∈ rows, ∃ a, r = enc a ∧ good a) → ∃ l : List α, rows = l.map enc ∧ ∀ a ∈ l, good a
 | [], _ => ⟨[], rfl, fun a h => by cases h⟩
 | r :: rest, h => by
   obtain ⟨a, rfl, ha⟩ := h r (by simp)
   obtain ⟨l, rfl, hl⟩ := rows_of (rows := rest) (fun r hr => h r (by simp [hr]))
   refine ⟨a :: l, rfl, fun x hx => ?_⟩
   rcases List.mem_cons.1 hx with rfl | hx
   · exact ha
   · exact hl x hx
theorem byt_of {f : Nat} {xs : List AV} (h : Shp Tryz.prog (f + 1) 68 xs) : ∃ b, xs = [b] ∧ Byt b ∧ b.isVal = true := by
 obtain ⟨x, h1, h2, h3, h4, h5⟩ := shp_slice Tryz.underlying68 h
 exact ⟨x, h1, ⟨h2, h4, fun q hq => shp_int Tryz.underlying5 (h5 q hq)⟩, h3⟩
theorem open_of {f : Nat} {xs : List AV} (h : Shp Tryz.prog (f + 1) 140 xs) : ∃ u : Ro, xs = u.row ∧ u.ready.size < 9223372036854775808 := by
 obtain ⟨p1, q1, rfl, h1, h⟩ := fs_cons (shp_struct Tryz.underlying140 h)
 obtain ⟨p2, q2, rfl, h2, h⟩ := fs_cons h
 obtain ⟨p3, q3, rfl, h3, h⟩ := fs_cons h
 obtain rfl := fs_nil h
 obtain ⟨a, rfl⟩ := shp_int Tryz.underlying3 h1
 obtain ⟨b, rfl⟩ := shp_int Tryz.underlying3 h2
 obtain ⟨c, rfl, hc⟩ := shp_str Tryz.underlying9 h3
 exact ⟨⟨a, b, c⟩, rfl, hc⟩
theorem rec_of {f : Nat} {xs : List AV} (h : Shp Tryz.prog (f + 3) 93 xs) : ∃ r : Rc, xs = r.row ∧ r.Ok := by
 obtain ⟨p1, q1, rfl, h1, h⟩ := fs_cons (shp_struct Tryz.underlying93 h)
 obtain ⟨p2, q2, rfl, h2, h⟩ := fs_cons h
 obtain ⟨p3, q3, rfl, h3, h⟩ := fs_cons h
 obtain ⟨p4, q4, rfl, h4, h⟩ := fs_cons h
 obtain ⟨p5, q5, rfl, h5, h⟩ := fs_cons h
 obtain ⟨p6, q6, rfl, h6, h⟩ := fs_cons h
 obtain ⟨p7, q7, rfl, h7, h⟩ := fs_cons h
 obtain ⟨p8, q8, rfl, h8, h⟩ := fs_cons h
 obtain ⟨p9, q9, rfl, h9, h⟩ := fs_cons h
 obtain ⟨p10, q10, rfl, h10, h⟩ := fs_cons h
 obtain rfl := fs_nil h
 obtain ⟨a1, rfl⟩ := shp_int Tryz.underlying3 h1
 obtain ⟨a2, rfl⟩ := shp_int Tryz.underlying3 h2
 obtain ⟨a3, rfl⟩ := shp_int Tryz.underlying3 h3
 obtain ⟨a4, rfl⟩ := shp_int Tryz.underlying3 h4
 obtain ⟨b5, rfl, c5, d5⟩ := byt_of h5
 obtain ⟨b6, rfl, c6, d6⟩ := byt_of h6
 obtain ⟨a7, rfl⟩ := shp_int Tryz.underlying3 h7
 obtain ⟨a8, rfl⟩ := shp_int Tryz.underlying3 h8
 obtain ⟨a9, rfl, e9⟩ := shp_str Tryz.underlying9 h9
 obtain ⟨x, rfl, k1, k2, k3, k4⟩ := shp_slice (f := f + 1) Tryz.underlying91 h10
 obtain ⟨l, e1, g1⟩ := rows_of (enc := Ro.row) (good := fun u => u.ready.size < 9223372036854775808) (fun r hr => open_of (k4 r hr))
 exact ⟨⟨a1, a2, a3, a4, b5, b6, a7, a8, a9, x, l⟩, rfl, ⟨c5, c6, k1, e1, d5, d6, k2, by rw [e1] at k3; simpa using k3, e9, g1⟩⟩
theorem recs_of {a : AV} (h : ArgIs Tryz.prog 8 43 a) : ∃ l, Recs a l := by
 obtain ⟨f, xs, hf, h1, h2, h3⟩ := h
 obtain ⟨f, rfl⟩ : ∃ g, f = g + 6 := ⟨f - 6, by omega⟩
 obtain ⟨x, rfl, c1, c2, c3, c4⟩ := shp_slice (f := f + 5) Tryz.underlying43 h1
 obtain ⟨l, e1, g1⟩ := rows_of (enc := Rc.row) (good := Rc.Ok) (fun r hr => rec_of (f := f + 2) (c4 r hr))
 simp only [argOf, Tryz.underlying43] at h2
 cases h2
 exact ⟨l, c1, c2, e1, g1, by rw [e1] at c3; simpa using c3⟩
end Lay
end Go.Vi
namespace Go.Vi
open Go Go.Vi Go.Proofs
namespace Lay
theorem int_of {a : AV} (h : ArgIs Tryz.prog 8 3 a) : ∃ n, a = .int .i64 n := by
 obtain ⟨f, xs, hf, h1, h2, h3⟩ := h
 obtain ⟨n, rfl⟩ := shp_int Tryz.underlying3 h1
 simp only [argOf, Tryz.underlying3] at h2
 cases h2
 exact ⟨n, rfl⟩
end Lay
end Go.Vi
