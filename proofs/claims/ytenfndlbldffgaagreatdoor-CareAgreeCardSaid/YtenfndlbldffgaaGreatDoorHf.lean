/- Part of the proofs of the tied cards of Care: the texts CsX CsH CsJ CsL CsM. Conditions: none of its own. -/
import Derived.Test.YtenfndlbldffgaaGreatDoorHe
import Derived.Test.YtenfndlbldffgaaGreatDoorHd
set_option autoImplicit false
set_option linter.unusedVariables false
set_option linter.unusedSimpArgs false
namespace Go.Vi
structure Rst where
 lw : Nat
 rv : AV
 uv : AV
 cs : List AV
 us : List (Int × Nat)
structure UnR (H : Hp) (own : Nat → Own) (k : Int) (l : Nat) (lv : AV) (u : Un) : Prop where
 obj : H[l]? = some (.arr 171 4 [[.int .i64 k, .int .i64 u.stands, lv, .str u.ready]])
 left : GrowIs H own (.left k) 3 1 lv (u.left.map iRow)
def uRow (p : Int × Nat) : List AV := [.ptr p.2 0 0]
structure RRep (H : Hp) (w : Rst) (s : St) (own : Nat → Own) : Prop where
 fresh : ∀ l, H.length ≤ l → own l = .no
 wo : own w.lw = .world
 wh : H[w.lw]? = some (.arr 148 15482 [w.cs])
 row : WRow w.cs w.rv w.uv s
 rh : GrowIs H own .recs 93 10 w.rv (s.recs.map Rc.row)
 uh : GrowIs H own .mu 168 1 w.uv (w.us.map uRow)
 un : ∀ p ∈ w.us, own p.2 = .unit p.1 ∧ ∃ lv, UnR H own p.1 p.2 lv (s.unit p.1)
 nd : (w.us.map (·.1)).Nodup
 seen : ∀ k, (s.unit k).seen = true ↔ k ∈ w.us.map (·.1)
 pg : PgOk s
 rok : ∀ r ∈ s.recs, r.Ok
section
variable {H H' : Hp} {w : Rst} {s : St} {own own' : Nat → Own} {tags : Own → Prop}
theorem Same.unR (h : Same tags H own H' own') {k : Int} {l : Nat} {lv : AV} {u : Un} (ho : own l = .unit k) (h1 : ¬ tags (.unit k)) (h2 : ¬ tags (.left k)) (hu : UnR H own k l lv u) : own' l = .unit k ∧ UnR H' own' k l lv u := by
 obtain ⟨a, b⟩ := h.at ho h1 hu.obj
 exact ⟨a, b, h.grow h2 hu.left⟩
theorem RRep.frame (hW : RRep H w s own) (h : Same (fun t => t = .no) H own H' own) (hf : ∀ l, H'.length ≤ l → own l = .no) : RRep H' w s own where
 fresh := hf
 wo := hW.wo
 wh := (h.at hW.wo (by simp) hW.wh).2
 row := hW.row
 rh := h.grow (by simp) hW.rh
 uh := h.grow (by simp) hW.uh
 un p hp := let ⟨h1, lv, h2⟩ := hW.un p hp; ⟨h1, lv, (h.unR h1 (by simp) (by simp) h2).2⟩
 nd := hW.nd
 seen := hW.seen
 pg := hW.pg
 rok := hW.rok
theorem RRep.app (hW : RRep H w s own) (g : Hp) : RRep (H ++ g) w s own :=
 hW.frame ⟨by simp, fun l hl _ => List.getElem?_append_left hl, fun _ _ => rfl⟩ fun l hl => hW.fresh l (by simp at hl; omega)
theorem RRep.set (hW : RRep H w s own) {l : Nat} {o : VO} (hl : own l = .no) : RRep (H.set l o) w s own :=
 hW.frame ⟨by simp, fun x _ hx => List.getElem?_set_ne (fun e => hx (by rw [← e]; exact hl)), fun _ _ => rfl⟩ fun x hx => hW.fresh x (by simpa using hx)
theorem RRep.no (hW : RRep H w s own) : own H.length = .no := hW.fresh _ (Nat.le_refl _)
def rfind (us : List (Int × Nat)) (k : Int) : AV := match us.find? (fun p => p.1 == k) with
 | some p => .ptr p.2 0 0
 | none => .nilp
theorem RRep.find (hW : RRep H w s own) (k : Int) : (rfind w.us k = .nilp ∧ (s.unit k).seen = false) ∨ ∃ l lv, rfind w.us k = .ptr l 0 0 ∧ (s.unit k).seen = true ∧ (k, l) ∈ w.us ∧ own l = .unit k ∧ UnR H own k l lv (s.unit k) := by
 unfold rfind
 cases h : w.us.find? (fun p => p.1 == k) with
 | none =>
   refine .inl ⟨rfl, ?_⟩
   cases hs : (s.unit k).seen with
   | false => rfl
   | true =>
     obtain ⟨p, hp, rfl⟩ := List.mem_map.1 ((hW.seen k).1 hs)
     have := List.find?_eq_none.1 h p hp
     simp at this
 | some p =>
   have hm := List.mem_of_find?_eq_some h
   have hk : p.1 = k := by have := List.find?_some h; simpa using this
   subst hk
   obtain ⟨h1, lv, h2⟩ := hW.un p hm
   exact .inr ⟨p.2, lv, rfl, (hW.seen p.1).2 (List.mem_map.2 ⟨p, hm, rfl⟩), hm, h1, h2⟩
theorem RRep.world {H1 : Hp} {w2 : Rst} {s2 : St} (hW : RRep H w s own) (hlw : w2.lw = w.lw) (hus : w2.us = w.us) (h : Same (fun t => t = .world ∨ t = .recs) H own H1 own') (hf : ∀ x, H1.length ≤ x → own' x = .no) (hwh : H1[w.lw]? = some (.arr 148 15482 [w2.cs])) (hrow : WRow w2.cs w2.rv w2.uv s2) (huv : w2.uv = w.uv)
 (hrh : GrowIs H1 own' .recs 93 10 w2.rv (s2.recs.map Rc.row)) (hun : s2.unit = s.unit) (hpg : PgOk s2) (hrok : ∀ r ∈ s2.recs, r.Ok) : RRep H1 w2 s2 own' where
 fresh := hf
 wo := by rw [hlw]; exact (h.own _ (lt_of hW.wh)).trans hW.wo
 wh := by rw [hlw]; exact hwh
 row := hrow
 rh := hrh
 uh := by rw [huv, hus]; exact h.grow (by simp) hW.uh
 un p hp := by
  rw [hus] at hp
  obtain ⟨h1, lv, h2⟩ := hW.un p hp
  obtain ⟨a, b⟩ := h.unR h1 (by simp) (by simp) h2
  exact ⟨a, lv, by rw [hun]; exact b⟩
 nd := by rw [hus]; exact hW.nd
 seen k := by rw [hus, hun]; exact hW.seen k
 pg := hpg
 rok := hrok
theorem RRep.recPush (hW : RRep H w s own) {H1 : Hp} {r : Rc} (hr : r.Ok) (h1 : H1.length = H.length + 1) (h2 : H1[H.length]? = some (.arr 93 10 (s.recs.map Rc.row ++ [r.row]))) (h3 : ∀ x, x < H.length → own x ≠ .recs → H1[x]? = H[x]?) :
 RRep (H1.set w.lw (.arr 148 15482 [setC w.cs 0 [.row false H.length 0 (s.recs.length + 1)]])) { w with rv := .row false H.length 0 (s.recs.length + 1), cs := setC w.cs 0 [.row false H.length 0 (s.recs.length + 1)] } { s with recs := s.recs ++ [r] } (own1 own H.length .recs) ∧
  Fr H own (H1.set w.lw (.arr 148 15482 [setC w.cs 0 [.row false H.length 0 (s.recs.length + 1)]])) (own1 own H.length .recs) := by
 have hlw := lt_of hW.wh
 have h : Same (fun t => t = .world ∨ t = .recs) H own (H1.set w.lw (.arr 148 15482 [setC w.cs 0 [.row false H.length 0 (s.recs.length + 1)]])) (own1 own H.length .recs) :=
  ⟨by simp [h1], fun x hx hn => by rw [List.getElem?_set_ne (fun e => hn (.inl (by rw [← e]; exact hW.wo)))]; exact h3 x hx (fun e => hn (.inr e)), fun x hx => own1_ne (by omega)⟩
 refine ⟨hW.world rfl rfl h (fun x hx => by simp [h1] at hx; rw [own1_ne (by omega)]; exact hW.fresh x (by omega)) (List.getElem?_set_self (by omega)) (let h := hW.row.setR (.row false H.length 0 (s.recs.length + 1)); ⟨h.len, h.c0, h.c1, h.byt, h.stm⟩) rfl ?_ rfl ⟨hW.pg.len, hW.pg.byt⟩ (fun q hq => ?_), h.fr (by simp)⟩
 · refine .inr ⟨H.length, s.recs.map Rc.row ++ [r.row], by simp, own1_self, ?_, by simp [List.take_of_length_le]⟩
   rw [List.getElem?_set_ne (by omega)]
   exact h2
 rcases List.mem_append.1 hq with hq | hq
 · exact hW.rok q hq
 simp at hq; subst hq; exact hr
theorem same_world (hW : RRep H w s own) {o : VO} : Same (fun t => t = .world ∨ t = .recs) H own (H.set w.lw o) own :=
 ⟨by simp, fun x hx hn => List.getElem?_set_ne (fun e => hn (.inl (by rw [← e]; exact hW.wo))), fun _ _ => rfl⟩
theorem RRep.lay (hW : RRep H w s own) {p pos : Nat} {b : List (List AV)} (hp : p < 120) (hb : ∀ q ∈ b, ∃ v, q = [AV.int .u8 v]) (hin : pos + b.length ≤ 128) :
 RRep (H.set w.lw (.arr 148 15482 [setC w.cs (2 + p * 128 + pos) b.flatten])) { w with cs := setC w.cs (2 + p * 128 + pos) b.flatten } { s with page := fset s.page p (layB (s.page p) pos b) } own := by
 refine hW.world rfl rfl (same_world hW) (fun x hx => hW.fresh x (by simpa using hx)) (List.getElem?_set_self (lt_of hW.wh)) (hW.row.lay hW.pg hp hb hin) rfl ((same_set (t0 := .world) hW.wo).grow (by simp) hW.rh) rfl ⟨fun k => ?_, fun k => ?_⟩ hW.rok
 · by_cases hk : k = p
   · subst hk; simp only [fset_self]; rw [layB_length (by rw [hW.pg.len]; exact hin)]; exact hW.pg.len _
   simp only [fset_ne hk]; exact hW.pg.len k
 by_cases hk : k = p
 · subst hk; simp only [fset_self]; exact layB_byt (hW.pg.byt _) hb
 simp only [fset_ne hk]; exact hW.pg.byt k
theorem RRep.stamp (hW : RRep H w s own) {p : Nat} {n : Int} (hp : p < 120) :
 RRep (H.set w.lw (.arr 148 15482 [setC w.cs (15362 + p) [.int .i64 n]])) { w with cs := setC w.cs (15362 + p) [.int .i64 n] } { s with stamp := fset s.stamp p n } own :=
 hW.world rfl rfl (same_world hW) (fun x hx => hW.fresh x (by simpa using hx)) (List.getElem?_set_self (lt_of hW.wh)) (hW.row.stamp hW.pg hp) rfl ((same_set (t0 := .world) hW.wo).grow (by simp) hW.rh) rfl ⟨hW.pg.len, hW.pg.byt⟩ hW.rok
theorem RRep.unitSet (hW : RRep H w s own) {k : Int} {l : Nat} {u : Un} {lv : AV} (hm : (k, l) ∈ w.us) (hs : u.seen = true) (h : Same (fun t => t = .unit k ∨ t = .left k) H own H' own') (hf : ∀ x, H'.length ≤ x → own' x = .no) (ho : own' l = .unit k) (hu : UnR H' own' k l lv u) : RRep H' w { s with unit := fset s.unit k u } own' := by
 have hW1 := (h.at hW.wo (by simp) hW.wh)
 refine ⟨hf, hW1.1, hW1.2, ⟨hW.row.len, hW.row.c0, hW.row.c1, hW.row.byt, hW.row.stm⟩, h.grow (by simp) hW.rh, h.grow (by simp) hW.uh, fun p hp => ?_, hW.nd, fun j => ?_, ⟨hW.pg.len, hW.pg.byt⟩, hW.rok⟩
 · by_cases hpk : p.1 = k
   · have : p.2 = l := by
      obtain ⟨i, hi⟩ := List.mem_iff_getElem?.1 hp
      obtain ⟨j, hj⟩ := List.mem_iff_getElem?.1 hm
      have h1 : (w.us.map (·.1))[i]? = some k := by rw [List.getElem?_map, hi]; simp [hpk]
      have h2 : (w.us.map (·.1))[j]? = some k := by rw [List.getElem?_map, hj]; rfl
      obtain ⟨a1, a2⟩ := List.getElem?_eq_some_iff.1 h1
      obtain ⟨b1, b2⟩ := List.getElem?_eq_some_iff.1 h2
      have hij : i = j := (List.getElem_inj hW.nd).1 (a2.trans b2.symm)
      subst hij
      rw [hi] at hj
      cases hj
      rfl
     rw [this, hpk]
     exact ⟨ho, lv, by simp only [fset_self]; exact hu⟩
   obtain ⟨h1, lv', h2⟩ := hW.un p hp
   obtain ⟨a, b⟩ := h.unR h1 (by simp [hpk]) (by simp [hpk]) h2
   exact ⟨a, lv', by simp only [fset_ne hpk]; exact b⟩
 by_cases hj : j = k
 · subst hj
   simp only [fset_self, hs, true_iff]
   exact List.mem_map.2 ⟨_, hm, rfl⟩
 simp only [fset_ne hj]; exact hW.seen j
def unRowR (k : Int) (u : Un) (lv : AV) : List AV := [.int .i64 k, .int .i64 u.stands, lv, .str u.ready]
theorem RRep.unitPut (hW : RRep H w s own) {k : Int} {l : Nat} {u : Un} {lv : AV} (hm : (k, l) ∈ w.us) (hs : u.seen = true) (hg : GrowIs H own (.left k) 3 1 lv (u.left.map iRow)) :
 RRep (H.set l (.arr 171 4 [unRowR k u lv])) w { s with unit := fset s.unit k u } own := by
 obtain ⟨ho, lv', hu'⟩ := hW.un _ hm
 have h : Same (fun t => t = .unit k) H own (H.set l (.arr 171 4 [unRowR k u lv])) own := same_set ho
 exact hW.unitSet hm hs ⟨h.len, fun x hx hn => h.keep x hx (fun e => hn (.inl e)), h.own⟩ (fun x hx => hW.fresh x (by simpa using hx)) ho ⟨List.getElem?_set_self (lt_of hu'.obj), h.grow (by simp) hg⟩
theorem RRep.leftPush (hW : RRep H w s own) {k : Int} {l : Nat} {u : Un} {H1 : Hp} {rows : List (List AV)} {n : Nat} (hn : rows.length = n) (hm : (k, l) ∈ w.us) (hs : u.seen = true) (h1 : H1.length = H.length + 1) (h2 : H1[H.length]? = some (.arr 3 1 rows)) (h3 : ∀ x, x < H.length → own x ≠ .left k → H1[x]? = H[x]?) (hr : u.left.map iRow = rows) :
 RRep (H1.set l (.arr 171 4 [unRowR k u (.row false H.length 0 n)])) w { s with unit := fset s.unit k u } (own1 own H.length (.left k)) ∧ Fr H own (H1.set l (.arr 171 4 [unRowR k u (.row false H.length 0 n)])) (own1 own H.length (.left k)) := by
 subst hn
 obtain ⟨ho, lv', hu'⟩ := hW.un _ hm
 have hl := lt_of hu'.obj
 have ho1 : own1 own H.length (.left k) l = .unit k := (own1_ne (by omega)).trans ho
 have h : Same (fun t => t = .unit k ∨ t = .left k) H own (H1.set l (.arr 171 4 [unRowR k u (.row false H.length 0 rows.length)])) (own1 own H.length (.left k)) :=
  ⟨by simp [h1], fun x hx hn => by rw [List.getElem?_set_ne (fun e => hn (.inl (by rw [← e]; exact ho)))]; exact h3 x hx (fun e => hn (.inr e)), fun x hx => own1_ne (by omega)⟩
 refine ⟨hW.unitSet hm hs h (fun x hx => by simp [h1] at hx; rw [own1_ne (by omega)]; exact hW.fresh x (by omega)) ho1 ⟨List.getElem?_set_self (by omega), ?_⟩, h.fr (by simp)⟩
 rw [hr]
 refine .inr ⟨H.length, rows, rfl, own1_self, ?_, List.take_length⟩
 rw [List.getElem?_set_ne (by omega)]
 exact h2
def own2 (own : Nat → Own) (a : Nat) (t : Own) (b : Nat) (t' : Own) : Nat → Own := own1 (own1 own a t) b t'
theorem RRep.unitNew (hW : RRep H w s own) {k : Int} (hns : (s.unit k).seen = false) {H1 : Hp} {a b n : Nat} (hn : n = w.us.length + 1) (ha : H.length ≤ a) (hb : H.length ≤ b) (hab : a ≠ b) (hal : a < H1.length) (hbl : b < H1.length) (ho : H1[a]? = some (.arr 171 4 [[.int .i64 k, .int .i64 0, .nils, .str ⟨#[]⟩]])) (h2 : H1[b]? = some (.arr 168 1 (w.us.map uRow ++ [[.ptr a 0 0]]))) (h3 : ∀ x, x < H.length → own x ≠ .mu → H1[x]? = H[x]?) :
 RRep (H1.set w.lw (.arr 148 15482 [setC w.cs 1 [.row false b 0 n]])) { w with uv := .row false b 0 n, cs := setC w.cs 1 [.row false b 0 n], us := w.us ++ [(k, a)] } { s with unit := fset s.unit k { Un.new with seen := true } } (own2 own a (.unit k) b .mu) ∧
  Fr H own (H1.set w.lw (.arr 148 15482 [setC w.cs 1 [.row false b 0 n]])) (own2 own a (.unit k) b .mu) := by
 subst hn
 have hlw := lt_of hW.wh
 have hnk : k ∉ w.us.map (·.1) := fun hm => by have := (hW.seen k).2 hm; rw [hns] at this; cases this
 have h : Same (fun t => t = .world ∨ t = .mu) H own (H1.set w.lw (.arr 148 15482 [setC w.cs 1 [.row false b 0 (w.us.length + 1)]])) (own2 own a (.unit k) b .mu) :=
  ⟨by simp; omega, fun x hx hn => by rw [List.getElem?_set_ne (fun e => hn (.inl (by rw [← e]; exact hW.wo)))]; exact h3 x hx (fun e => hn (.inr e)), fun x hx => by rw [own2, own1_ne (by omega), own1_ne (by omega)]⟩
 have hrow := hW.row.setU (.row false b 0 (w.us.length + 1))
 refine ⟨⟨fun x hx => ?_, (h.own _ hlw).trans hW.wo, List.getElem?_set_self (by omega), ⟨hrow.len, hrow.c0, hrow.c1, hrow.byt, hrow.stm⟩, h.grow (by simp) hW.rh, ?_, fun p hp => ?_, ?_, fun j => ?_, ⟨hW.pg.len, hW.pg.byt⟩, hW.rok⟩, h.fr (by simp)⟩
 · simp at hx
   rw [own2, own1_ne (by omega), own1_ne (by omega)]
   exact hW.fresh x (by omega)
 · refine .inr ⟨b, w.us.map uRow ++ [[.ptr a 0 0]], by simp, by rw [own2, own1_self], ?_, by simp [uRow, List.take_of_length_le]⟩
   rw [List.getElem?_set_ne (by omega)]
   exact h2
 · rcases List.mem_append.1 hp with hp | hp
   · have hpk : p.1 ≠ k := fun e => hnk (e ▸ List.mem_map.2 ⟨p, hp, rfl⟩)
     obtain ⟨a1, lv, a2⟩ := hW.un p hp
     obtain ⟨c1, c2⟩ := h.unR a1 (by simp) (by simp) a2
     exact ⟨c1, lv, by simp only [fset_ne hpk]; exact c2⟩
   simp at hp
   subst hp
   refine ⟨by simp only; rw [own2, own1_ne hab, own1_self], .nils, ?_, ?_⟩
   · simp only [fset_self]
     rw [List.getElem?_set_ne (by omega)]
     exact ho
   simp only [fset_self]
   exact .inl ⟨rfl, rfl⟩
 · rw [List.map_append, List.nodup_append]
   refine ⟨hW.nd, by simp, fun a ha b hb e => ?_⟩
   simp at hb
   exact hnk (by rw [← hb, ← e]; exact ha)
 by_cases hj : j = k
 · subst hj
   simp [fset_self]
 simp only [fset_ne hj, List.map_append, List.mem_append, List.map_cons, List.map_nil, List.mem_singleton, hj, or_false]
 exact hW.seen j
end
end Go.Vi
set_option maxRecDepth 100000
namespace Go.Vi
open Go Go.Vi Go.Proofs
attribute [local irreducible] vops vopsD vc
theorem zr93b : zrOf Tryz.prog 93 = some (.agg [.int .i64 0, .int .i64 0, .int .i64 0, .int .i64 0, .nils, .nils, .int .i64 0, .int .i64 0, .str ⟨#[]⟩, .nils]) := by kernel_rfl
theorem zc93 : zcOf Tryz.prog 93 = some [.int .i64 0, .int .i64 0, .int .i64 0, .int .i64 0, .nils, .nils, .int .i64 0, .int .i64 0, .str ⟨#[]⟩, .nils] := by kernel_rfl
theorem by93 : byOf Tryz.prog 93 = some 136 := by kernel_rfl
theorem zc3z : zcOf Tryz.prog 3 = some [.int .i64 0] := by kernel_rfl
theorem by3z : byOf Tryz.prog 3 = some 8 := by kernel_rfl
theorem sz35 : szOf Tryz.prog 35 = some 1 := by kernel_rfl
theorem sz43 : szOf Tryz.prog 43 = some 1 := by kernel_rfl
theorem sz4 : szOf Tryz.prog 4 = some 1 := by kernel_rfl
theorem sz9 : szOf Tryz.prog 9 = some 1 := by kernel_rfl
theorem g_buildL {P : Program} {H : Hp} {t e : TypeId} {sz : Nat} {zc cs : List AV} {x : AV} (he : elemAt P t = some (none, e, sz)) (hz : zcOf P e = some zc) (hl : zc.length = sz ∧ sz ≠ 0 ∧ 1 * sz ≤ 2 ^ 24) (hc : x.cells = some cs) (hs : cs.length = sz) (hv : allVal [cs] = true) : (vbuildList P t 1 [(0, x)]).map (·, H) = some (.list .tight [cs], H) := by
 simp only [vbuildList, he, hz]
 rw [if_pos hl]
 simp [vfillRows, hc, hs, hv]
theorem Rc.Ok.val {r : Rc} (h : r.Ok) : allVal [r.row] = true := by
 simp only [allVal, Rc.row, List.all_cons, List.all_nil, h.vb, h.va, h.vo]
 rfl
theorem sMeetsB (G : Glob) (H : Hp) (w : Pst) (s : St) (own : Nat → Own) (hW : WRep H w s own) (hS : StOk s) (r : Rc) (hr : r.Ok) (hi : r.In) (b : Bool) (hb : s.meets r = b) : XS Tryz.prog G 143 [.ptr w.lw 0 0, .agg r.row] H (fun v H' => v = .bool b ∧ H' = H) :=
 (sMeets G H w s own hW hS r hr hi).mono fun v H' h => ⟨h.1.trans (by rw [meetsW_eq hW, hb]), h.2⟩
def AddEnd (H : Hp) (w : Pst) (s : St) (own : Nat → Own) (r : Rc) (v : AV) (H' : Hp) : Prop :=
 ∃ own', v = .bool (s.follows r) ∧ Fr H own H' own' ∧ (s.follows r = true → ∃ w', w'.lw = w.lw ∧ WRep H' w' (s.add r) own' ∧ KeysOk w' (s.recs.length + 1) ∧ rlen w'.wv ≤ s.recs.length + 1)
theorem add_no {H H' : Hp} {w : Pst} {s : St} {own own' : Nat → Own} {r : Rc} (hn : s.follows r = false) (hF : Fr H own H' own') : AddEnd H w s own r (.bool false) H' :=
 ⟨own', by rw [hn], hF, fun h => by rw [hn] at h; cases h⟩
theorem mid_of {H Hx : Hp} {w w' : Pst} {own ow : Nat → Own} {r : Rc} {l m k k' : Nat} {lv : AV} {s2 s3 : St} {u2 u3 : Un} (h : AU H w own r Hx w' ow l lv s2 u2 m k) (hk : k ≤ k') (hs : s2 = s3) (hu : u2 = u3) : AU H w own r Hx w' ow l lv s3 u3 m k' := by
 subst hs; subst hu; exact h.up hk
theorem mid_same2 {s : St} {r : Rc} (hl : laysB r = false) (hu : (s.unit r.unit).core r ((s.recs.length : Int) + 1) = s.unit r.unit) : s = s.mid r := by
 unfold St.mid
 rw [hl, hu]
 by_cases h0 : r.unit = 0
 · simp [h0]
 have : fset s.unit r.unit (s.unit r.unit) = s.unit := by
  funext x
  by_cases hx : x = r.unit
  · subst hx; simp [fset_self]
  · simp [fset_ne hx]
 simp [h0, this]
theorem AU.done {H Hx H1 : Hp} {w w' : Pst} {own ow : Nat → Own} {r : Rc} {l m : Nat} {lv : AV} {s s' : St} {u : Un} {k : Nat} (h : AU H w own r Hx w' ow l lv s' u m k) (hr : r.Ok) (hf : s.follows r = true) (hs : { s' with recs := s'.recs ++ [r] } = s.add r) (h1 : H1.length = Hx.length + 1) (h2 : H1[Hx.length]? = some (.arr 93 10 (s'.recs.map Rc.row ++ [r.row]))) (h3 : ∀ x, x < Hx.length → ow x ≠ .recs → H1[x]? = Hx[x]?) (hm : m = s.recs.length + 1) (hkm : k = s.recs.length + 1) :
 AddEnd H w s own r (.bool true) (H1.set w'.lw (.arr 191 5 [[.row false Hx.length 0 (s'.recs.length + 1), .mapr w'.lp, .mapr w'.ls, .mapr w'.lu, w'.wv]])) := by
 obtain ⟨k1, k2⟩ := h.rep.recPush hr h1 h2 h3
 rw [hs] at k1
 exact ⟨_, by rw [hf], h.fr.trans k2, fun _ => ⟨{ w' with rv := .row false Hx.length 0 (s'.recs.length + 1) }, h.lw, k1, ⟨h.keys.num, by have := h.keys.len; simp only; omega⟩, by have := h.wl; simp only; omega⟩⟩
set_option maxHeartbeats 16000000 in
theorem sAdd (G : Glob) (H : Hp) (w : Pst) (s : St) (own : Nat → Own) (hW : WRep H w s own) (hS : StOk s) (hK : KeysOk w s.recs.length) (hwl : rlen w.wv ≤ s.recs.length) (r : Rc) (hr : r.Ok) (hlen : s.recs.length < 1000000) : XS Tryz.prog G 119 [.ptr w.lw 0 0, .agg r.row] H (AddEnd H w s own r) := by
 have hLb := hr.bef.1
 have hLa := hr.aft.1
 have hLo := hr.opn
 have hbb := hr.bef.2.1
 have hab := hr.aft.2.1
 have hxt := hr.txt
 have hlen := hr.len
 have hol : (lrows r.opn).length = r.opens.length := by rw [hr.rows]; simp
 have hna : r.na = (lrows r.aft).length := rfl
 have hnb : r.nb = (lrows r.bef).length := rfl
 have hno := hW.no
 have hleft : ∀ k, (s.unit k).left.length ≤ 1000000 := fun k => by have := hS.left k; omega
 have hB0 : (H ++ [VO.arr 93 10 [r.row]])[H.length]? = some (VO.arr 93 10 [r.row]) := get_last
 have hl0 : lend (H ++ [VO.arr 93 10 [r.row]]) (.agg r.row) = some (.agg r.row) := lend_agg (mapL_cons rfl (mapL_cons rfl (mapL_cons rfl (mapL_cons rfl (mapL_cons hLb.lend0 (mapL_cons hLa.lend0 (mapL_cons rfl (mapL_cons rfl (mapL_cons rfl (mapL_cons hLo.lend0 rfl))))))))))
 refine xs_body (fun o => match o.op with | .call ⟨.value (.func f), _, _⟩ => if f = 141 ∨ f = 144 ∨ f = 147 then .iso else .shr | .call ⟨.builtin .append, _, _⟩ => .shr | _ => .iso) Tryz.func119 rfl ?_
 refine vc_norm (env' := (_ :: _ :: _ :: _ :: _ :: _ :: _ :: _ :: _ :: _ :: _ :: _ :: _ :: _ :: _ :: _ :: _ :: _ :: _ :: _ :: _ :: _ :: _ :: _ :: _ :: _ :: _ :: _ :: _ :: _ :: _ :: _ :: _ :: _ :: _ :: _ :: _ :: _ :: _ :: _ :: _ :: _ :: _ :: _ :: _ :: _ :: _ :: _ :: _ :: _ :: _ :: _ :: _ :: _ :: _ :: _ :: _ :: _ :: _ :: _ :: _ :: _ :: _ :: _ :: _ :: _ :: _ :: _ :: _ :: _ :: _ :: _ :: _ :: _ :: _ :: _ :: _ :: _ :: _ :: _ :: _ :: _ :: _ :: _ :: _ :: _ :: _ :: _ :: _ :: _ :: _ :: _ :: _ :: _ :: _ :: _ :: _ :: _ :: _ :: _ :: _ :: _ :: _ :: _ :: _ :: _ :: _ :: _ :: _ :: _ :: _ :: _ :: _ :: _ :: _ :: _ :: _ :: _ :: _ :: _ :: _ :: _ :: _ :: _ :: _ :: _ :: _ :: _ :: _ :: _ :: _ :: _ :: _ :: _ :: _ :: _ :: _ :: _ :: _ :: _ :: _ :: _ :: _ :: _ :: _ :: _ :: _ :: _ :: _ :: _ :: _ :: _ :: _ :: _ :: _ :: _ :: _ :: _ :: _ :: _ :: _ :: _ :: _ :: _ :: _ :: _ :: _ :: _ :: _ :: _ :: _ :: _ :: _ :: _ :: _ :: _ :: _ :: _ :: _ :: _ :: _ :: _ :: _ :: _ :: _ :: _ :: _ :: _ :: _ :: _ :: _ :: _ :: _ :: _ :: _ :: _ :: _ :: _ :: _ :: _ :: _ :: _ :: _ :: _ :: _ :: _ :: _ :: _ :: _ :: _ :: _ :: _ :: _ :: _ :: _ :: _ :: _ :: _ :: _ :: _ :: _ :: _ :: _ :: _ :: _ :: _ :: _ :: _ :: _ :: _ :: _ :: _ :: _ :: _ :: _ :: _ :: _ :: _ :: _ :: _ :: _ :: _ :: _ :: _ :: _ :: _ :: _ :: _ :: _ :: _ :: _ :: _ :: _ :: _ :: _ :: _ :: _ :: _ :: _ :: _ :: _ :: _ :: _ :: _ :: _ :: _ :: _ :: _ :: _ :: _ :: [])) (H' := _) rfl rfl ?_
 refine vs (wr ?_)
 refine w_opH (v := .ptr H.length 0 0) (env' := _) (H2 := H ++ [VO.arr 93 10 [r.row]]) rfl (g_box (x := .agg r.row) rfl rfl) rfl (rfl) (fun _ h => h) (v270 rfl ?_)
 refine wN rfl rfl rfl (v270 rfl ?_)
 refine we rfl (vs (vs (wr ?_)))
 refine wN (v := .agg r.row) rfl (g_load hB0 rfl rfl) rfl (v270 rfl ?_)
 refine w_callI (env' := _) rfl rfl rfl (by kernel_rfl) rfl (mapL_cons hl0 rfl) (sValid G r hr) rfl (v270 rfl ?_)
 iterate 2 refine wN rfl rfl rfl (v270 rfl ?_)
 apply w_or 19 12 (fun b => (rnone 12 ++ (rundef 19 ++ ([some (.bool b)] ++ (rnone 238))))) rfl
 ·
  intro hg12 hY12
  refine v270 rfl ?_
  iterate 8 refine wS (wanted_f 12 (by kernel_rfl) rfl) (v270 rfl ?_)
  iterate 4 refine wS (wanted_k 20 (by kernel_rfl) rfl) (v270 rfl ?_)
  iterate 3 refine wS (wanted_k 24 (by kernel_rfl) rfl) (v270 rfl ?_)
  iterate 2 refine wS (wanted_k 20 (by kernel_rfl) rfl) (v270 rfl ?_)
  refine wS (wanted_f 12 (by kernel_rfl) rfl) (v270 rfl ?_)
  refine wN rfl rfl rfl (v270 rfl ?_)
  refine hY12 _ ?_
  repeat' first | exact trivial | refine ⟨.inr rfl, ?_⟩ | refine ⟨.inl rfl, ?_⟩ | fail
 ·
  intro hg12 hY12
  refine v270 rfl ?_
  refine wN (v := .ptr H.length 0 1) (wanted_t 12 (by kernel_rfl) rfl) rfl rfl (v270 rfl ?_)
  refine wN (v := .int .i64 r.unit) (wanted_t 12 (by kernel_rfl) rfl) (g_load hB0 rfl rfl) rfl (v270 rfl ?_)
  refine wN (wanted_t 12 (by kernel_rfl) rfl) rfl rfl (v270 rfl ?_)
  refine wN (v := .ptr H.length 0 0) (wanted_t 12 (by kernel_rfl) rfl) rfl rfl (v270 rfl ?_)
  refine wN (v := .int .i64 r.kind) (wanted_t 12 (by kernel_rfl) rfl) (g_load hB0 rfl rfl) rfl (v270 rfl ?_)
  iterate 3 refine wN (wanted_t 12 (by kernel_rfl) rfl) rfl rfl (v270 rfl ?_)
  apply w_and 10 20 (fun b => (rnone 20 ++ (rundef 10 ++ ([some (.bool b)] ++ (rnone 239))))) rfl
  ·
   intro hg20 hY20
   refine v270 rfl ?_
   refine wN (v := .ptr H.length 0 0) (wanted_t 20 (by kernel_rfl) rfl) rfl rfl (v270 rfl ?_)
   refine wN (v := .int .i64 r.kind) (wanted_t 20 (by kernel_rfl) rfl) (g_load hB0 rfl rfl) rfl (v270 rfl ?_)
   iterate 2 refine wN (wanted_t 20 (by kernel_rfl) rfl) rfl rfl (v270 rfl ?_)
   apply w_and 4 24 (fun b => (rnone 24 ++ (rundef 4 ++ ([some (.bool b)] ++ (rnone 241))))) rfl
   ·
    intro hg24 hY24
    refine v270 rfl ?_
    refine wN (v := .ptr H.length 0 1) (wanted_t 24 (by kernel_rfl) rfl) rfl rfl (v270 rfl ?_)
    refine wN (v := .int .i64 r.unit) (wanted_t 24 (by kernel_rfl) rfl) (g_load hB0 rfl rfl) rfl (v270 rfl ?_)
    refine wN (wanted_t 24 (by kernel_rfl) rfl) rfl rfl (v270 rfl ?_)
    refine wN (wanted_t 20 (by kernel_rfl) rfl) rfl rfl (v270 rfl ?_)
    refine hY24 _ ?_
    repeat' first | exact trivial | refine ⟨.inr rfl, ?_⟩ | refine ⟨.inl rfl, ?_⟩ | fail
   ·
    intro hg24 hY24
    refine v270 rfl ?_
    iterate 3 refine wS (wanted_f 24 (by kernel_rfl) rfl) (v270 rfl ?_)
    refine wN (wanted_t 20 (by kernel_rfl) rfl) rfl rfl (v270 rfl ?_)
    refine hY24 _ ?_
    repeat' first | exact trivial | refine ⟨.inr rfl, ?_⟩ | refine ⟨.inl rfl, ?_⟩ | fail
   refine v270 rfl ?_
   refine wN (wanted_t 20 (by kernel_rfl) rfl) rfl rfl (v270 rfl ?_)
   refine wN (wanted_t 12 (by kernel_rfl) rfl) rfl rfl (v270 rfl ?_)
   refine hY20 _ ?_
   repeat' first | exact trivial | refine ⟨.inr rfl, ?_⟩ | refine ⟨.inl rfl, ?_⟩ | fail
  ·
   intro hg20 hY20
   refine v270 rfl ?_
   iterate 4 refine wS (wanted_f 20 (by kernel_rfl) rfl) (v270 rfl ?_)
   iterate 3 refine wS (wanted_k 24 (by kernel_rfl) rfl) (v270 rfl ?_)
   iterate 2 refine wS (wanted_f 20 (by kernel_rfl) rfl) (v270 rfl ?_)
   refine wN (wanted_t 12 (by kernel_rfl) rfl) rfl rfl (v270 rfl ?_)
   refine hY20 _ ?_
   repeat' first | exact trivial | refine ⟨.inr rfl, ?_⟩ | refine ⟨.inl rfl, ?_⟩ | fail
  refine v270 rfl ?_
  refine wN rfl rfl rfl (v270 rfl ?_)
  refine hY12 _ ?_
  repeat' first | exact trivial | refine ⟨.inr rfl, ?_⟩ | refine ⟨.inl rfl, ?_⟩ | fail
 refine v270 rfl ?_
 refine we rfl ?_
 refine vc_cond rfl (fun hc31 => ?_) (fun hc31 => ?_)
 ·
  refine vs (wr ?_)
  refine wN rfl rfl rfl (v270 rfl ?_)
  refine we rfl (vc_ret (r_then (r_fn rfl ?_)))
  exact add_no (follows_g hc31) (Fr.app H _ own)
 have hg0 := hc31
 have hv : validP r = true := by rw [Bool.or_eq_false_iff, Bool.not_eq_false'] at hg0; exact hg0.1
 have hin := validP_in hv
 have hub := validP_unit hv
 have hp0 := hin.p0
 have hp1 := hin.p1
 refine vc_skip (n_then (vs (wr ?_)))
 refine wN (v := .ptr w.lw 0 0) rfl rfl rfl (v270 rfl ?_)
 iterate 2 refine wN rfl rfl rfl (v270 rfl ?_)
 refine wN (v := w.rv) rfl (g_load (get_app hW.wh) rfl rfl) rfl (v270 rfl ?_)
 refine wN (v := .int .i64 s.recs.length) rfl ((recs_len (hW.app [VO.arr 93 10 [r.row]]) :)) rfl (v270 rfl ?_)
 refine wN (v := .int .i64 ((s.recs.length : Int) + 1)) rfl (int_eq (i64_small (by omega) (by omega))) rfl (v270 rfl ?_)
 refine wN rfl rfl rfl (v270 rfl ?_)
 refine we rfl (vs (wr ?_))
 refine wN (v := .agg [_, _, _, _]) rfl rfl rfl (v270 rfl ?_)
 refine w_opH (v := .ptr (H.length + 1) 0 0) (env' := _) (H2 := (H ++ [VO.arr 93 10 [r.row]] ++ [VO.arr 194 4 [[.int .i64 0, .nils, .str ⟨#[]⟩, .bool false]]])) rfl (g_box (x := .agg [.int .i64 0, .nils, .str ⟨#[]⟩, .bool false]) rfl (by simp)) rfl (rfl) (fun _ h => h) (v270 rfl ?_)
 refine wN (v := .ptr (H.length + 1) 0 0) rfl rfl rfl (v270 rfl ?_)
 refine we rfl ?_
 refine vc_meet (α := { a : Hp × Pst × (Nat → Own) × Nat × AV // AU H w own r a.1 a.2.1 a.2.2.1 a.2.2.2.1 a.2.2.2.2 s (s.unit r.unit) (s.recs.length + 1) s.recs.length }) (fun a => (rnone 6 ++ ([some (.ptr a.1.2.2.2.1 0 0)] ++ (rnone 33 ++ (rundef 7 ++ (rnone 223)))))) (fun a => a.1.1) ?_ ?_
 ·
  intro Mo5 hMo5
  refine vs (wr ?_)
  have hB1 : (H ++ [VO.arr 93 10 [r.row]] ++ [VO.arr 194 4 [[.int .i64 0, .nils, .str ⟨#[]⟩, .bool false]]])[H.length]? = some (VO.arr 93 10 [r.row]) := get_app hB0
  have hW1 : WRep (H ++ [VO.arr 93 10 [r.row]] ++ [VO.arr 194 4 [[.int .i64 0, .nils, .str ⟨#[]⟩, .bool false]]]) w s own := (hW.app _).app _
  refine wN (v := .ptr H.length 0 1) rfl rfl rfl (v270 rfl ?_)
  refine wN (v := .int .i64 r.unit) rfl (g_load hB1 rfl rfl) rfl (v270 rfl ?_)
  refine wN rfl rfl rfl (v270 rfl ?_)
  refine we rfl ?_
  refine vc_cond rfl (fun hc42 => ?_) (fun hc42 => ?_)
  ·
   have hun : r.unit ≠ 0 := by have := of_decide_eq_true hc42; omega
   refine wr ?_
   refine wN (v := .ptr w.lw 0 0) rfl rfl rfl (v270 rfl ?_)
   refine wN (v := .ptr H.length 0 1) rfl rfl rfl (v270 rfl ?_)
   refine wN (v := .int .i64 r.unit) rfl (g_load hB1 rfl rfl) rfl (v270 rfl ?_)
   refine w_callS rfl rfl rfl (by kernel_rfl) rfl (sUnit G _ w s own hW1 r.unit) ?_
   rintro _ H2 ⟨eu, own2, l, lv, rfl, hWu, hm, ho, hu, hF, he1, he2⟩
   have hA0 : AU H w own r H2 { w with eu := eu } own2 l lv s (s.unit r.unit) (s.recs.length + 1) s.recs.length := ⟨rfl, hWu, (hF.keep _ (by simp) hno).trans hB1, (hF.own _ (by simp)).trans hno, hu, fun _ => rfl, .inr ⟨hun, hm, ho⟩, ((Fr.app H [VO.arr 93 10 [r.row]] own).trans (Fr.app _ [VO.arr 194 4 [[.int .i64 0, .nils, .str ⟨#[]⟩, .bool false]]] own)).trans hF, ⟨fun e he => (he1 e he).elim (fun h => by rw [h]; exact hub) (hK.num e), by have := hK.len; simp only; omega⟩, hwl⟩
   refine v270 rfl ?_
   refine wN rfl rfl rfl (v270 rfl ?_)
   refine we rfl ?_
   refine hMo5 ⟨(H2, { w with eu := eu }, own2, l, lv), hA0⟩ _ _ (by first | exact hA0.fr.len | exact hA1.fr.len) rfl ?_
   repeat' first | exact trivial | refine ⟨.inr rfl, ?_⟩ | refine ⟨.inl rfl, ?_⟩ | refine ⟨.inl ?_, ?_⟩ | fail
  have h0 : r.unit = 0 := by have := of_decide_eq_false hc42; omega
  have hA1 : AU H w own r (H ++ [VO.arr 93 10 [r.row]] ++ [VO.arr 194 4 [[.int .i64 0, .nils, .str ⟨#[]⟩, .bool false]]]) w own (H.length + 1) .nils s (s.unit r.unit) (s.recs.length + 1) s.recs.length := ⟨rfl, hW1, hB1, hno, by rw [show (s.unit r.unit) = Un.new by rw [h0]; exact hS.zero]; exact ⟨by simp [Un.new], .inl ⟨rfl, rfl⟩⟩, fun h => absurd h0 h, .inl ⟨h0, hW.fresh _ (by omega), by omega⟩, (Fr.app H [VO.arr 93 10 [r.row]] own).trans (Fr.app _ [VO.arr 194 4 [[.int .i64 0, .nils, .str ⟨#[]⟩, .bool false]]] own), ⟨hK.num, by have := hK.len; omega⟩, hwl⟩
  refine vc_skip (n_then ?_)
  refine hMo5 ⟨((H ++ [VO.arr 93 10 [r.row]] ++ [VO.arr 194 4 [[.int .i64 0, .nils, .str ⟨#[]⟩, .bool false]]]), w, own, H.length + 1, .nils), hA1⟩ _ _ (by first | exact hA0.fr.len | exact hA1.fr.len) rfl ?_
  repeat' first | exact trivial | refine ⟨.inr rfl, ?_⟩ | refine ⟨.inl rfl, ?_⟩ | refine ⟨.inl ?_, ?_⟩ | fail
 rintro ⟨⟨Hx, wx, ow, l, lv⟩, hA⟩ hnbo5
 refine vc_norm (env' := (_ :: _ :: _ :: _ :: _ :: _ :: (.ptr l 0 0) :: _ :: _ :: _ :: _ :: _ :: _ :: _ :: _ :: _ :: _ :: _ :: _ :: _ :: _ :: _ :: _ :: _ :: _ :: _ :: _ :: _ :: _ :: _ :: _ :: _ :: _ :: _ :: _ :: _ :: _ :: _ :: _ :: _ :: _ :: _ :: _ :: _ :: _ :: _ :: _ :: _ :: _ :: _ :: _ :: _ :: _ :: _ :: _ :: _ :: _ :: _ :: _ :: _ :: _ :: _ :: _ :: _ :: _ :: _ :: _ :: _ :: _ :: _ :: _ :: _ :: _ :: _ :: _ :: _ :: _ :: _ :: _ :: _ :: _ :: _ :: _ :: _ :: _ :: _ :: _ :: _ :: _ :: _ :: _ :: _ :: _ :: _ :: _ :: _ :: _ :: _ :: _ :: _ :: _ :: _ :: _ :: _ :: _ :: _ :: _ :: _ :: _ :: _ :: _ :: _ :: _ :: _ :: _ :: _ :: _ :: _ :: _ :: _ :: _ :: _ :: _ :: _ :: _ :: _ :: _ :: _ :: _ :: _ :: _ :: _ :: _ :: _ :: _ :: _ :: _ :: _ :: _ :: _ :: _ :: _ :: _ :: _ :: _ :: _ :: _ :: _ :: _ :: _ :: _ :: _ :: _ :: _ :: _ :: _ :: _ :: _ :: _ :: _ :: _ :: _ :: _ :: _ :: _ :: _ :: _ :: _ :: _ :: _ :: _ :: _ :: _ :: _ :: _ :: _ :: _ :: _ :: _ :: _ :: _ :: _ :: _ :: _ :: _ :: _ :: _ :: _ :: _ :: _ :: _ :: _ :: _ :: _ :: _ :: _ :: _ :: _ :: _ :: _ :: _ :: _ :: _ :: _ :: _ :: _ :: _ :: _ :: _ :: _ :: _ :: _ :: _ :: _ :: _ :: _ :: _ :: _ :: _ :: _ :: _ :: _ :: _ :: _ :: _ :: _ :: _ :: _ :: _ :: _ :: _ :: _ :: _ :: _ :: _ :: _ :: _ :: _ :: _ :: _ :: _ :: _ :: _ :: _ :: _ :: _ :: _ :: _ :: _ :: _ :: _ :: _ :: _ :: _ :: _ :: _ :: _ :: _ :: _ :: _ :: _ :: _ :: _ :: _ :: _ :: _ :: _ :: _ :: _ :: _ :: [])) (H' := Hx) rfl rfl ?_
 replace hA : AU H w own r Hx wx ow l lv s (s.unit r.unit) (s.recs.length + 1) s.recs.length := hA
 rw [← hA.lw]
 refine vs (vs (wr ?_))
 iterate 3 refine wN rfl rfl rfl (v270 rfl ?_)
 refine wN (v := .int .i64 (s.unit r.unit).stands) rfl (g_load hA.un.obj rfl rfl) rfl (v270 rfl ?_)
 iterate 2 refine wN rfl rfl rfl (v270 rfl ?_)
 apply w_or 16 52 (fun b => (rnone 52 ++ (rundef 16 ++ ([some (.bool b)] ++ (rnone 201))))) rfl
 ·
  intro hg52 hY52
  refine v270 rfl ?_
  iterate 6 refine wS (wanted_f 52 (by kernel_rfl) rfl) (v270 rfl ?_)
  iterate 4 refine wS (wanted_k 58 (by kernel_rfl) rfl) (v270 rfl ?_)
  iterate 3 refine wS (wanted_k 62 (by kernel_rfl) rfl) (v270 rfl ?_)
  refine wS (wanted_k 58 (by kernel_rfl) rfl) (v270 rfl ?_)
  refine wS (wanted_f 52 (by kernel_rfl) rfl) (v270 rfl ?_)
  refine wN rfl rfl rfl (v270 rfl ?_)
  refine hY52 _ ?_
  repeat' first | exact trivial | refine ⟨.inr rfl, ?_⟩ | refine ⟨.inl rfl, ?_⟩ | fail
 ·
  intro hg52 hY52
  refine v270 rfl ?_
  iterate 3 refine wN (wanted_t 52 (by kernel_rfl) rfl) rfl rfl (v270 rfl ?_)
  refine wN (v := .int .i64 (s.unit r.unit).stands) (wanted_t 52 (by kernel_rfl) rfl) (g_load hA.un.obj rfl rfl) rfl (v270 rfl ?_)
  iterate 2 refine wN (wanted_t 52 (by kernel_rfl) rfl) rfl rfl (v270 rfl ?_)
  apply w_and 9 58 (fun b => (rnone 58 ++ (rundef 9 ++ ([some (.bool b)] ++ (rnone 202))))) rfl
  ·
   intro hg58 hY58
   refine v270 rfl ?_
   refine wN (v := .ptr H.length 0 0) (wanted_t 58 (by kernel_rfl) rfl) rfl rfl (v270 rfl ?_)
   refine wN (v := .int .i64 r.kind) (wanted_t 58 (by kernel_rfl) rfl) (g_load hA.box rfl rfl) rfl (v270 rfl ?_)
   iterate 2 refine wN (wanted_t 58 (by kernel_rfl) rfl) rfl rfl (v270 rfl ?_)
   apply w_or 4 62 (fun b => (rnone 62 ++ (rundef 4 ++ ([some (.bool b)] ++ (rnone 203))))) rfl
   ·
    intro hg62 hY62
    refine v270 rfl ?_
    iterate 3 refine wS (wanted_f 62 (by kernel_rfl) rfl) (v270 rfl ?_)
    refine wN (wanted_t 58 (by kernel_rfl) rfl) rfl rfl (v270 rfl ?_)
    refine hY62 _ ?_
    repeat' first | exact trivial | refine ⟨.inr rfl, ?_⟩ | refine ⟨.inl rfl, ?_⟩ | fail
   ·
    intro hg62 hY62
    refine v270 rfl ?_
    refine wN (v := .ptr H.length 0 0) (wanted_t 62 (by kernel_rfl) rfl) rfl rfl (v270 rfl ?_)
    refine wN (v := .int .i64 r.kind) (wanted_t 62 (by kernel_rfl) rfl) (g_load hA.box rfl rfl) rfl (v270 rfl ?_)
    refine wN (wanted_t 62 (by kernel_rfl) rfl) rfl rfl (v270 rfl ?_)
    refine wN (wanted_t 58 (by kernel_rfl) rfl) rfl rfl (v270 rfl ?_)
    refine hY62 _ ?_
    repeat' first | exact trivial | refine ⟨.inr rfl, ?_⟩ | refine ⟨.inl rfl, ?_⟩ | fail
   refine v270 rfl ?_
   refine wN (wanted_t 52 (by kernel_rfl) rfl) rfl rfl (v270 rfl ?_)
   refine hY58 _ ?_
   repeat' first | exact trivial | refine ⟨.inr rfl, ?_⟩ | refine ⟨.inl rfl, ?_⟩ | fail
  ·
   intro hg58 hY58
   refine v270 rfl ?_
   iterate 4 refine wS (wanted_f 58 (by kernel_rfl) rfl) (v270 rfl ?_)
   iterate 3 refine wS (wanted_k 62 (by kernel_rfl) rfl) (v270 rfl ?_)
   refine wS (wanted_f 58 (by kernel_rfl) rfl) (v270 rfl ?_)
   refine wN (wanted_t 52 (by kernel_rfl) rfl) rfl rfl (v270 rfl ?_)
   refine hY58 _ ?_
   repeat' first | exact trivial | refine ⟨.inr rfl, ?_⟩ | refine ⟨.inl rfl, ?_⟩ | fail
  refine v270 rfl ?_
  refine wN rfl rfl rfl (v270 rfl ?_)
  refine hY52 _ ?_
  repeat' first | exact trivial | refine ⟨.inr rfl, ?_⟩ | refine ⟨.inl rfl, ?_⟩ | fail
 refine v270 rfl ?_
 refine we rfl ?_
 refine vc_cond rfl (fun hc68 => ?_) (fun hc68 => ?_)
 ·
  refine vs (wr ?_)
  refine wN rfl rfl rfl (v270 rfl ?_)
  refine we rfl (vc_ret (r_then (r_fn rfl ?_)))
  exact add_no (follows_u hS.zero hc68) hA.fr
 have hu0 := hc68
 refine vc_skip (n_then ?_)
 refine vc_meet (α := { a : Hp × Pst × (Nat → Own) × AV // AU H w own r a.1 a.2.1 a.2.2.1 l a.2.2.2 (s.mid r) ((s.unit r.unit).core r ((s.recs.length : Int) + 1)) (s.recs.length + 1) (s.recs.length + 1) ∧ s.kindOk r = true }) (fun a => (rnone 4 ++ ([some .undef, none, none, some .undef, some .undef] ++ (rnone 60 ++ (rundef 179 ++ (rnone 22)))))) (fun a => a.1.1) ?_ ?_
 ·
  intro Mo9 hMo9
  refine vs (wr ?_)
  refine wN (v := .ptr H.length 0 0) rfl rfl rfl (v270 rfl ?_)
  refine wN (v := .int .i64 r.kind) rfl (g_load hA.box rfl rfl) rfl (v270 rfl ?_)
  refine we rfl (vc_block (vs (wr ?_)))
  iterate 2 refine wN rfl rfl rfl (v270 rfl ?_)
  refine we rfl ?_
  refine vc_cond rfl (fun hc71 => ?_) (fun hc71 => ?_)
  ·
   refine vs (vs ?_)
   have h1k : r.kind = 1 := eq_of_beq hc71
   have hun := guard_unit hg0 (by omega) (by omega)
   have hbn := valid_nb hv h1k
   cases hme : s.meets r
   ·
    obtain ⟨ep2, ow2, hP⟩ := hA.rep.pgIs r.page
    obtain ⟨lv2, hA2⟩ := hA.next hP.rep hP.fr rfl rfl rfl rfl hun
    have hby : ∀ q ∈ lrows (.list .bor (((s.page r.page).drop (0 + r.pos.toNat)).take ((r.pos + (r.nb : Int)).toNat - r.pos.toNat))), ∃ v, q = [AV.int .u8 v] := fun q hq => hA.rep.pby r.page q (List.mem_of_mem_drop (List.mem_of_mem_take hq))
    have hwas : lrows (.list .bor (((s.page r.page).drop (0 + r.pos.toNat)).take ((r.pos + (r.nb : Int)).toNat - r.pos.toNat))) = s.was r := by
     rw [show 0 + r.pos.toNat = r.pos.toNat by omega, show (r.pos + (r.nb : Int)).toNat - r.pos.toNat = r.nb by omega]
     rfl
    have hpl := hA.rep.plen r.page
    have hobj := hP.obj
    refine w_regionW [Hx, (pgH Hx wx r.page)] (by kernel_rfl) ?_
    refine e_op (v := .ptr wx.lw 0 0) (env' := _) rfl (by decide) (show _ = (0, 0) by kernel_rfl) (by decide) (fun _ _ h => h) (fun q h1 h2 => rfl) rfl (w270 rfl ?_)
    refine e_op (v := .agg r.row) (env' := _) rfl (by decide) (show _ = (0, 0) by kernel_rfl) (by decide) (fun _ _ h => h) (fun q h1 h2 => (match q, h1, h2 with | 0, _, _ => g_load hA.box rfl rfl | q + 1, _, h2 => absurd h2 (by omega))) rfl (w270 rfl ?_)
    refine e_callS (H0 := _) (H1 := Hx) (env' := _) rfl rfl rfl (by kernel_rfl) rfl (show _ = (0, 1) by kernel_rfl) rfl rfl (sMeetsB G _ wx s ow hA.rep hS r hr hin false hme) rfl (w270 rfl ?_)
    refine e_op (env' := _) rfl (by decide) (show _ = (1, 1) by kernel_rfl) (by decide) (fun _ _ h => h) (fun q h1 h2 => rfl) rfl (w270 rfl ?_)
    refine e_op (v := .ptr wx.lw 0 0) (env' := _) (wanted_t 76 (by kernel_rfl) rfl) (by decide) (show _ = (1, 1) by kernel_rfl) (by decide) (fun _ _ h => h) (fun q h1 h2 => rfl) rfl (w270 rfl ?_)
    refine e_op (v := .ptr H.length 0 2) (env' := _) (wanted_t 76 (by kernel_rfl) rfl) (by decide) (show _ = (1, 1) by kernel_rfl) (by decide) (fun _ _ h => h) (fun q h1 h2 => rfl) rfl (w270 rfl ?_)
    refine e_op (v := .int .i64 r.page) (env' := _) (wanted_t 76 (by kernel_rfl) rfl) (by decide) (show _ = (1, 1) by kernel_rfl) (by decide) (fun _ _ h => h) (fun q h1 h2 => (match q, h1, h2 with | 0, h1, _ => absurd h1 (by omega) | 1, _, _ => g_load hA.box rfl rfl | q + 2, _, h2 => absurd h2 (by omega))) rfl (w270 rfl ?_)
    refine e_callS (H0 := Hx) (H1 := (pgH Hx wx r.page)) (env' := _) (wanted_t 76 (by kernel_rfl) rfl) rfl rfl (by kernel_rfl) rfl (show _ = (1, 2) by kernel_rfl) rfl rfl (sPage G _ wx s ow hA.rep r.page) rfl (w270 rfl ?_)
    refine e_op (v := .ptr H.length 0 3) (env' := _) (wanted_t 76 (by kernel_rfl) rfl) (by decide) (show _ = (1, 2) by kernel_rfl) (by decide) (fun _ _ h => h) (fun q h1 h2 => rfl) rfl (w270 rfl ?_)
    refine e_op (v := .int .i64 r.pos) (env' := _) (wanted_t 76 (by kernel_rfl) rfl) (by decide) (show _ = (1, 2) by kernel_rfl) (by decide) (fun _ _ h => h) (fun q h1 h2 => (match q, h1, h2 with | 0, h1, _ => absurd h1 (by omega) | 1, _, _ => g_load hA.box rfl rfl | 2, _, _ => g_load hA2.box rfl rfl | q + 3, _, h2 => absurd h2 (by omega))) rfl (w270 rfl ?_)
    refine e_op (v := .ptr H.length 0 3) (env' := _) (wanted_t 76 (by kernel_rfl) rfl) (by decide) (show _ = (1, 2) by kernel_rfl) (by decide) (fun _ _ h => h) (fun q h1 h2 => rfl) rfl (w270 rfl ?_)
    refine e_op (v := .int .i64 r.pos) (env' := _) (wanted_t 76 (by kernel_rfl) rfl) (by decide) (show _ = (1, 2) by kernel_rfl) (by decide) (fun _ _ h => h) (fun q h1 h2 => (match q, h1, h2 with | 0, h1, _ => absurd h1 (by omega) | 1, _, _ => g_load hA.box rfl rfl | 2, _, _ => g_load hA2.box rfl rfl | q + 3, _, h2 => absurd h2 (by omega))) rfl (w270 rfl ?_)
    refine e_op (v := .ptr H.length 0 4) (env' := _) (wanted_t 76 (by kernel_rfl) rfl) (by decide) (show _ = (1, 2) by kernel_rfl) (by decide) (fun _ _ h => h) (fun q h1 h2 => rfl) rfl (w270 rfl ?_)
    refine e_op (v := r.bef) (env' := _) (wanted_t 76 (by kernel_rfl) rfl) (by decide) (show _ = (1, 2) by kernel_rfl) (by decide) (fun _ _ h => h) (fun q h1 h2 => (match q, h1, h2 with | 0, h1, _ => absurd h1 (by omega) | 1, _, _ => g_load hA.box rfl rfl | 2, _, _ => g_load hA2.box rfl rfl | q + 3, _, h2 => absurd h2 (by omega))) rfl (w270 rfl ?_)
    refine e_op (v := .int .i64 (r.nb : Int)) (env' := _) (wanted_t 76 (by kernel_rfl) rfl) (by decide) (show _ = (1, 2) by kernel_rfl) (by decide) (fun _ _ h => h) (fun q h1 h2 => (match q, h1, h2 with | 0, h1, _ => absurd h1 (by omega) | 1, _, _ => vlen_isL hLb Tryz.underlying68 | 2, _, _ => vlen_isL hLb Tryz.underlying68 | q + 3, _, h2 => absurd h2 (by omega))) rfl (w270 rfl ?_)
    refine e_op (v := .int .i64 (r.pos + (r.nb : Int))) (env' := _) (wanted_t 76 (by kernel_rfl) rfl) (by decide) (show _ = (1, 2) by kernel_rfl) (by decide) (fun _ _ h => h) (fun q h1 h2 => (match q, h1, h2 with | 0, h1, _ => absurd h1 (by omega) | 1, _, _ => int_eq (i64_small (by omega) (by omega)) | 2, _, _ => int_eq (i64_small (by omega) (by omega)) | q + 3, _, h2 => absurd h2 (by omega))) rfl (w270 rfl ?_)
    refine e_op (v := .row (cutT true 128 (r.pos + (r.nb : Int)).toNat none) (pgLoc Hx wx r.page) (0 + r.pos.toNat) ((r.pos + (r.nb : Int)).toNat - r.pos.toNat)) (env' := _) (wanted_t 76 (by kernel_rfl) rfl) (by decide) (show _ = (2, 2) by kernel_rfl) (by decide) (fun _ _ h => h) (fun q h1 h2 => (match q, h1, h2 with | 0, h1, _ => absurd h1 (by omega) | 1, h1, _ => absurd h1 (by omega) | 2, _, _ => g_slice2 (e := 5) Tryz.underlying68 sz5 hP.obj hp0 (by omega) (by omega) | q + 3, _, h2 => absurd h2 (by omega))) rfl (w270 rfl ?_)
    refine e_op (v := .ptr H.length 0 4) (env' := _) (wanted_t 76 (by kernel_rfl) rfl) (by decide) (show _ = (1, 2) by kernel_rfl) (by decide) (fun _ _ h => h) (fun q h1 h2 => rfl) rfl (w270 rfl ?_)
    refine e_op (v := r.bef) (env' := _) (wanted_t 76 (by kernel_rfl) rfl) (by decide) (show _ = (1, 2) by kernel_rfl) (by decide) (fun _ _ h => h) (fun q h1 h2 => (match q, h1, h2 with | 0, h1, _ => absurd h1 (by omega) | 1, _, _ => g_load hA.box rfl rfl | 2, _, _ => g_load hA2.box rfl rfl | q + 3, _, h2 => absurd h2 (by omega))) rfl (w270 rfl ?_)
    refine e_callI (wanted_t 76 (by kernel_rfl) rfl) rfl rfl (by kernel_rfl) rfl (show _ = (2, 2) by kernel_rfl) (by decide) (fun q h1 h2 => (match q, h1, h2 with | 0, h1, _ => absurd h1 (by omega) | 1, h1, _ => absurd h1 (by omega) | 2, _, _ => mapL_cons (lend_rowB hP.obj (by have := hA.rep.plen r.page; omega) (byt_val (hA.rep.pby r.page))) (mapL_cons hLb.lend rfl) | q + 3, _, h2 => absurd h2 (by omega))) (sEqual G _ _ (.inr ⟨_, _, rfl⟩) hLb hby hr.bef.2.2) rfl (w270 rfl ?_)
    refine e_op (env' := _) (wanted_t 76 (by kernel_rfl) rfl) (by decide) (show _ = (2, 2) by kernel_rfl) (by decide) (fun _ _ h => h) (fun q h1 h2 => rfl) rfl (w270 rfl ?_)
    refine e_op (env' := _) rfl (by decide) (show _ = (2, 2) by kernel_rfl) (by decide) (fun _ _ h => h) (fun q h1 h2 => rfl) rfl (w270 rfl ?_)
    refine e_end (H' := (pgH Hx wx r.page)) rfl ?_
    refine vc_cond rfl (fun hc94 => ?_) (fun hc94 => ?_)
    ·
     refine vs (wr ?_)
     refine wN rfl rfl rfl (v270 rfl ?_)
     refine we rfl (vc_ret (r_then (r_block (r_then (r_fn rfl ?_)))))
     have hn : s.follows r = false := by
      rw [follows_k hg0 hu0]
      rw [hwas] at hc94
      simp only [Bool.not_eq_true'] at hc94
      simp [St.kindOk, h1k, St.changeOk, hc94]
     exact add_no hn hA2.fr
    have hwe : eqB (s.was r) (lrows r.bef) = true := by rw [hwas] at hc94; simpa using hc94
    refine vc_skip (n_then (vs (wr ?_)))
    refine wN (v := .ptr wx.lw 0 0) rfl rfl rfl (v270 rfl ?_)
    refine wN (v := .agg r.row) rfl (g_load hA2.box rfl rfl) rfl (v270 rfl ?_)
    refine w_callS rfl rfl rfl (by kernel_rfl) rfl (sLay G _ _ s ow2 hA2.rep r hr hin (by omega)) ?_
    rintro _ H3 ⟨ep3, es3, ow3, hW3, hF3⟩
    obtain ⟨lv3, hA3⟩ := hA2.next hW3 hF3 rfl rfl rfl rfl hun
    obtain ⟨H4, hQ, hQl, hQr, hQk⟩ := grow_app (P := Tryz.prog) (t := 35) (t2 := 35) (x := .list .tight [[.int .i64 ((s.recs.length : Int) + 1)]]) (news := [[.int .i64 ((s.recs.length : Int) + 1)]]) hA3.un.left el35 Tryz.underlying35 rfl zc3z by3z rfl rfl (by decide) (by decide) rfl rfl (by simp) (by simp only [List.length_map, List.length_singleton]; have := hleft r.unit; omega)
    simp only [List.length_map, List.length_singleton] at hQ
    refine v270 rfl ?_
    refine we rfl (wr ?_)
    iterate 4 refine wN rfl rfl rfl (v270 rfl ?_)
    refine wN (v := lv3) rfl (g_load hA3.un.obj rfl rfl) rfl (v270 rfl ?_)
    iterate 2 refine wN rfl rfl rfl (v270 rfl ?_)
    refine w_opH (v := .row false H3.length 0 ((s.unit r.unit).left.length + 1)) (env' := _) (H2 := H4) rfl (hQ) rfl (rfl) (fun _ h => h) (v270 rfl ?_)
    iterate 2 refine wN rfl rfl rfl (v270 rfl ?_)
    refine w_op0N (H2 := (H4.set l (.arr 194 4 [unRow { (s.unit r.unit) with left := (s.unit r.unit).left ++ [(s.recs.length : Int) + 1] } (.row false H3.length 0 ((s.unit r.unit).left.length + 1))]))) rfl (g_store ((hQk l hA3.llt (by rw [(hA3.cas.resolve_left fun c => hun c.1).2.2]; simp)).trans hA3.un.obj) rfl rfl sz35 ⟨rfl, by simp, by decide⟩) (rfl) (fun _ h => h) ?_
    refine w_endB rfl (n_then ?_)
    refine hMo9 ⟨(_, _, _, _), mid_of (hA3.push (n := ((s.unit r.unit).left.length + 1)) hun (by simp) hQl hQr (fun x hx ho => hQk x hx ho) (by simp [iRow])) (by omega) (by simp [St.mid, St.put, St.lay, laysB, Un.core, h1k, hun]) (by simp [Un.core, h1k]), by simp [St.kindOk, h1k, St.changeOk, hme, hwe]⟩ _ _ (by first | (have := hA6.fr.len; simpa using this) | (have := hA3.fr.len; simp [hQl]; omega) | (have := hA2.fr.len; simp [hQl]; omega) | (have := hA.fr.len; simpa using this)) rfl ?_
    repeat' first | exact trivial | refine ⟨.inr rfl, ?_⟩ | refine ⟨.inl rfl, ?_⟩ | refine ⟨.inl ?_, ?_⟩ | fail
   refine w_regionW [Hx, Hx] (by kernel_rfl) ?_
   refine e_op (v := .ptr wx.lw 0 0) (env' := _) rfl (by decide) (show _ = (0, 0) by kernel_rfl) (by decide) (fun _ _ h => h) (fun q h1 h2 => rfl) rfl (w270 rfl ?_)
   refine e_op (v := .agg r.row) (env' := _) rfl (by decide) (show _ = (0, 0) by kernel_rfl) (by decide) (fun _ _ h => h) (fun q h1 h2 => (match q, h1, h2 with | 0, _, _ => g_load hA.box rfl rfl | q + 1, _, h2 => absurd h2 (by omega))) rfl (w270 rfl ?_)
   refine e_callS (H0 := _) (H1 := Hx) (env' := _) rfl rfl rfl (by kernel_rfl) rfl (show _ = (0, 1) by kernel_rfl) rfl rfl (sMeetsB G _ wx s ow hA.rep hS r hr hin true hme) rfl (w270 rfl ?_)
   refine e_op (env' := _) rfl (by decide) (show _ = (1, 1) by kernel_rfl) (by decide) (fun _ _ h => h) (fun q h1 h2 => rfl) rfl (w270 rfl ?_)
   iterate 3 refine e_skip (wanted_f 76 (by kernel_rfl) rfl) (by decide) (show _ = (1, 1) by kernel_rfl) (by decide) rfl (w270 rfl ?_)
   refine e_skip2 (wanted_f 76 (by kernel_rfl) rfl) (by kernel_rfl) (show _ = (1, 2) by kernel_rfl) rfl rfl (w270 rfl ?_)
   iterate 8 refine e_skip (wanted_f 76 (by kernel_rfl) rfl) (by decide) (show _ = (1, 2) by kernel_rfl) (by decide) rfl (w270 rfl ?_)
   refine e_skip (wanted_f 76 (by kernel_rfl) rfl) (by decide) (show _ = (2, 2) by kernel_rfl) (by decide) rfl (w270 rfl ?_)
   iterate 2 refine e_skip (wanted_f 76 (by kernel_rfl) rfl) (by decide) (show _ = (1, 2) by kernel_rfl) (by decide) rfl (w270 rfl ?_)
   iterate 2 refine e_skip (wanted_f 76 (by kernel_rfl) rfl) (by decide) (show _ = (2, 2) by kernel_rfl) (by decide) rfl (w270 rfl ?_)
   refine e_op (env' := _) rfl (by decide) (show _ = (2, 2) by kernel_rfl) (by decide) (fun _ _ h => h) (fun q h1 h2 => rfl) rfl (w270 rfl ?_)
   refine e_end (H' := Hx) rfl ?_
   refine vc_true rfl ?_
   refine vs (wr ?_)
   refine wN rfl rfl rfl (v270 rfl ?_)
   refine we rfl (vc_ret (r_then (r_block (r_then (r_fn rfl ?_)))))
   have hn : s.follows r = false := by
    rw [follows_k hg0 hu0]
    simp [St.kindOk, h1k, St.changeOk, hme]
   exact add_no hn hA.fr
  have h1n : r.kind ≠ 1 := fun e => by rw [e] at hc71; cases hc71
  refine vs (wr ?_)
  iterate 2 refine wN rfl rfl rfl (v270 rfl ?_)
  refine we rfl ?_
  refine vc_cond rfl (fun hc108 => ?_) (fun hc108 => ?_)
  ·
   refine vs (vs ?_)
   have h2k : r.kind = 2 := eq_of_beq hc108
   have hun := guard_unit hg0 (by omega) (by omega)
   refine w_regionD (by kernel_rfl) ?_
   iterate 3 refine dN rfl rfl rfl (d270 rfl ?_)
   refine dN (v := lv) rfl (g_load hA.un.obj rfl rfl) rfl (d270 rfl ?_)
   refine dN (v := .int .i64 (s.unit r.unit).left.length) rfl (un_len hA.un Tryz.underlying35) rfl (d270 rfl ?_)
   iterate 2 refine dN rfl rfl rfl (d270 rfl ?_)
   refine d_split 116 rfl (fun hg116 => ?_) (fun hg116 => ?_)
   ·
    have hle : (s.unit r.unit).left = [] := List.length_eq_zero_iff.1 (by have := hg116; simpa using this)
    refine d270 rfl ?_
    iterate 15 refine dS (wanted_f 116 (by kernel_rfl) rfl) (d270 rfl ?_)
    refine dN rfl rfl rfl (d270 rfl ?_)
    refine d_end rfl ?_
    refine vc_true rfl ?_
    refine vs (wr ?_)
    refine wN rfl rfl rfl (v270 rfl ?_)
    refine we rfl (vc_ret (r_then (r_block (r_then (r_fn rfl ?_)))))
    have hn : s.follows r = false := by
     rw [follows_k hg0 hu0]
     simp [St.kindOk, h2k, St.undoneOk, hle]
    exact add_no hn hA.fr
   have hpos : 0 < (s.unit r.unit).left.length := by have := hg116; simp at this; exact List.length_pos_iff.2 this
   obtain ⟨q, hq⟩ : ∃ q, (s.unit r.unit).left[(s.unit r.unit).left.length - 1]? = some q := ⟨_, List.getElem?_eq_getElem (by omega)⟩
   have hlast : (s.unit r.unit).left.getLast? = some q := by rw [List.getLast?_eq_getElem?]; exact hq
   have hlb := hleft r.unit
   obtain ⟨L, rows0, rfl, hL1, hL2, hLo, hLt⟩ := left_at hA.un hq
   rw [show (s.unit r.unit).left.length - 1 = (((s.unit r.unit).left.length : Int) - 1).toNat by omega] at hL2
   refine d270 rfl ?_
   iterate 3 refine dN (wanted_t 116 (by kernel_rfl) rfl) rfl rfl (d270 rfl ?_)
   refine dN (v := .row false L 0 (s.unit r.unit).left.length) (wanted_t 116 (by kernel_rfl) rfl) (g_load hA.un.obj rfl rfl) rfl (d270 rfl ?_)
   iterate 3 refine dN (wanted_t 116 (by kernel_rfl) rfl) rfl rfl (d270 rfl ?_)
   refine dN (v := .row false L 0 (s.unit r.unit).left.length) (wanted_t 116 (by kernel_rfl) rfl) (g_load hA.un.obj rfl rfl) rfl (d270 rfl ?_)
   refine dN (v := .int .i64 (s.unit r.unit).left.length) (wanted_t 116 (by kernel_rfl) rfl) (un_len hA.un Tryz.underlying35) rfl (d270 rfl ?_)
   refine dN (v := .int .i64 (((s.unit r.unit).left.length : Int) - 1)) (wanted_t 116 (by kernel_rfl) rfl) (int_eq (i64_small (by omega) (by omega))) rfl (d270 rfl ?_)
   refine dN (v := .ptr L (((s.unit r.unit).left.length : Int) - 1).toNat 0) (wanted_t 116 (by kernel_rfl) rfl) (g_index0 el35 hL1 (by omega) (by omega)) rfl (d270 rfl ?_)
   refine dN (v := .int .i64 q) (wanted_t 116 (by kernel_rfl) rfl) (g_load hL1 hL2 rfl) rfl (d270 rfl ?_)
   refine dN (v := .ptr H.length 0 6) (wanted_t 116 (by kernel_rfl) rfl) rfl rfl (d270 rfl ?_)
   refine dN (v := .int .i64 r.back) (wanted_t 116 (by kernel_rfl) rfl) (g_load hA.box rfl rfl) rfl (d270 rfl ?_)
   refine dN (wanted_t 116 (by kernel_rfl) rfl) rfl rfl (d270 rfl ?_)
   refine dN rfl rfl rfl (d270 rfl ?_)
   refine d_end rfl ?_
   refine vc_cond rfl (fun hc132 => ?_) (fun hc132 => ?_)
   ·
    refine vs (wr ?_)
    refine wN rfl rfl rfl (v270 rfl ?_)
    refine we rfl (vc_ret (r_then (r_block (r_then (r_fn rfl ?_)))))
    have hn : s.follows r = false := by
     rw [follows_k hg0 hu0]
     have hqn : (q == r.back) = false := by simpa [bne] using hc132
     simp [St.kindOk, h2k, St.undoneOk, hlast, hqn]
    exact add_no hn hA.fr
   obtain rfl : q = r.back := by simpa using hc132
   have hqr := hS.lft r.unit r.back (List.mem_of_getElem? hq)
   have hsl := hS.len
   obtain ⟨c, hc⟩ : ∃ c, s.recs[(r.back - 1).toNat]? = some c := ⟨_, List.getElem?_eq_getElem (by omega)⟩
   have hcO := hA.rep.rok c (List.mem_of_getElem? hc)
   have hcB := hcO.bef.1
   obtain ⟨Lr, rowsR, hRv, hR1, hR2⟩ := rec_at hA.rep hc
   have hdl : (s.unit r.unit).left.dropLast.length = (s.unit r.unit).left.length - 1 := by simp
   refine vc_skip (n_then (vs ?_))
   refine w_regionW [(Hx ++ [VO.arr 93 10 [[.int .i64 0, .int .i64 0, .int .i64 0, .int .i64 0, .nils, .nils, .int .i64 0, .int .i64 0, .str ⟨#[]⟩, .nils]]]), ((Hx ++ [VO.arr 93 10 [[.int .i64 0, .int .i64 0, .int .i64 0, .int .i64 0, .nils, .nils, .int .i64 0, .int .i64 0, .str ⟨#[]⟩, .nils]]]).set Hx.length (VO.arr 93 10 [c.row]))] (by kernel_rfl) ?_
   refine e_op (v := .ptr wx.lw 0 0) (env' := _) rfl (by decide) (show _ = (0, 1) by kernel_rfl) (by decide) (fun _ _ h => h) (fun q h1 h2 => rfl) rfl (w270 rfl ?_)
   iterate 2 refine e_op (env' := _) rfl (by decide) (show _ = (0, 1) by kernel_rfl) (by decide) (fun _ _ h => h) (fun q h1 h2 => rfl) rfl (w270 rfl ?_)
   refine e_op (v := .row false Lr 0 s.recs.length) (env' := _) rfl (by decide) (show _ = (0, 1) by kernel_rfl) (by decide) (fun _ _ h => h) (fun q h1 h2 => (match q, h1, h2 with | 0, _, _ => (by rw [← hRv]; exact g_load hA.rep.wh rfl rfl) | 1, _, _ => (by rw [← hRv]; exact g_load (get_app hA.rep.wh) rfl rfl) | q + 2, _, h2 => absurd h2 (by omega))) rfl (w270 rfl ?_)
   refine e_op (v := .ptr H.length 0 6) (env' := _) rfl (by decide) (show _ = (0, 1) by kernel_rfl) (by decide) (fun _ _ h => h) (fun q h1 h2 => rfl) rfl (w270 rfl ?_)
   refine e_op (v := .int .i64 r.back) (env' := _) rfl (by decide) (show _ = (0, 1) by kernel_rfl) (by decide) (fun _ _ h => h) (fun q h1 h2 => (match q, h1, h2 with | 0, _, _ => g_load hA.box rfl rfl | 1, _, _ => g_load (get_app hA.box) rfl rfl | q + 2, _, h2 => absurd h2 (by omega))) rfl (w270 rfl ?_)
   refine e_op (v := .int .i64 (r.back - 1)) (env' := _) rfl (by decide) (show _ = (0, 1) by kernel_rfl) (by decide) (fun _ _ h => h) (fun q h1 h2 => (match q, h1, h2 with | 0, _, _ => int_eq (i64_small (by omega) (by omega)) | 1, _, _ => int_eq (i64_small (by omega) (by omega)) | q + 2, _, h2 => absurd h2 (by omega))) rfl (w270 rfl ?_)
   refine e_op (v := .ptr Lr (r.back - 1).toNat 0) (env' := _) rfl (by decide) (show _ = (0, 1) by kernel_rfl) (by decide) (fun _ _ h => h) (fun q h1 h2 => (match q, h1, h2 with | 0, _, _ => g_index0 el43b hR1 (by omega) (by omega) | 1, _, _ => g_index0 el43b (get_app hR1) (by omega) (by omega) | q + 2, _, h2 => absurd h2 (by omega))) rfl (w270 rfl ?_)
   refine e_op (v := .agg c.row) (env' := _) rfl (by decide) (show _ = (0, 1) by kernel_rfl) (by decide) (fun _ _ h => h) (fun q h1 h2 => (match q, h1, h2 with | 0, _, _ => g_load hR1 hR2 rfl | 1, _, _ => g_load (get_app hR1) hR2 rfl | q + 2, _, h2 => absurd h2 (by omega))) rfl (w270 rfl ?_)
   refine e_eff (H0 := _) (H1 := (Hx ++ [VO.arr 93 10 [[.int .i64 0, .int .i64 0, .int .i64 0, .int .i64 0, .nils, .nils, .int .i64 0, .int .i64 0, .str ⟨#[]⟩, .nils]]])) (v := .ptr Hx.length 0 0) (env' := _) rfl rfl (show _ = (0, 1) by kernel_rfl) rfl rfl (fun _ _ h => h) (g_alloc zr93b rfl rfl) rfl (w270 rfl ?_)
   refine e_eff0 (H0 := (Hx ++ [VO.arr 93 10 [[.int .i64 0, .int .i64 0, .int .i64 0, .int .i64 0, .nils, .nils, .int .i64 0, .int .i64 0, .str ⟨#[]⟩, .nils]]])) (H1 := ((Hx ++ [VO.arr 93 10 [[.int .i64 0, .int .i64 0, .int .i64 0, .int .i64 0, .nils, .nils, .int .i64 0, .int .i64 0, .str ⟨#[]⟩, .nils]]]).set Hx.length (VO.arr 93 10 [c.row]))) rfl rfl (show _ = (1, 2) by kernel_rfl) rfl rfl (fun _ _ h => h) (g_store (i := 0) (k := 0) (x := .agg c.row) (cs := c.row) (rows := [[.int .i64 0, .int .i64 0, .int .i64 0, .int .i64 0, .nils, .nils, .int .i64 0, .int .i64 0, .str ⟨#[]⟩, .nils]]) (get_last (H := Hx)) rfl rfl sz93 ⟨rfl, by simp [Rc.row], by decide⟩) ?_
   refine e_end (H' := ((Hx ++ [VO.arr 93 10 [[.int .i64 0, .int .i64 0, .int .i64 0, .int .i64 0, .nils, .nils, .int .i64 0, .int .i64 0, .str ⟨#[]⟩, .nils]]]).set Hx.length (VO.arr 93 10 [c.row]))) rfl ?_
   refine vs ?_
   rw [set_last]
   have hA2 := hA.app [VO.arr 93 10 [c.row]]
   have hlb := hleft r.unit
   refine w_regionD (by kernel_rfl) ?_
   iterate 4 refine dN rfl rfl rfl (d270 rfl ?_)
   refine dN (v := .row false L 0 (s.unit r.unit).left.length) rfl (g_load hA2.un.obj rfl rfl) rfl (d270 rfl ?_)
   iterate 3 refine dN rfl rfl rfl (d270 rfl ?_)
   refine dN (v := .row false L 0 (s.unit r.unit).left.length) rfl (g_load hA2.un.obj rfl rfl) rfl (d270 rfl ?_)
   refine dN (v := .int .i64 (s.unit r.unit).left.length) rfl (un_len hA2.un Tryz.underlying35) rfl (d270 rfl ?_)
   refine dN (v := .int .i64 (((s.unit r.unit).left.length : Int) - 1)) rfl (int_eq (i64_small (by omega) (by omega))) rfl (d270 rfl ?_)
   refine dN (v := .row false L 0 (s.unit r.unit).left.dropLast.length) rfl (g_cut (e := 3) Tryz.underlying35 sz3 (get_app hL1) (by omega)) rfl (d270 rfl ?_)
   iterate 2 refine dN rfl rfl rfl (d270 rfl ?_)
   refine d_op0 (H2 := ((Hx ++ [VO.arr 93 10 [c.row]]).set l (.arr 194 4 [unRow { (s.unit r.unit) with left := (s.unit r.unit).left.dropLast } (.row false L 0 (s.unit r.unit).left.dropLast.length)]))) rfl (g_store hA2.un.obj rfl rfl sz35 ⟨rfl, by simp, by decide⟩) (.inl rfl) (rfl) (fun _ h => h) ?_
   refine d_end rfl (vs ?_)
   have hg : GrowIs (Hx ++ [VO.arr 93 10 [c.row]]) ow (.left r.unit) 3 1 (.row false L 0 (s.unit r.unit).left.dropLast.length) (({ (s.unit r.unit) with left := (s.unit r.unit).left.dropLast } : Un).left.map iRow) := by
    have hgc := GrowIs.cut (rows := (s.unit r.unit).left.map iRow) (k := (s.unit r.unit).left.dropLast.length) hLo (get_app (g := [VO.arr 93 10 [c.row]]) hL1) (by rw [List.length_map]; exact hLt) (by simp)
    rw [show ((s.unit r.unit).left.map iRow).take (s.unit r.unit).left.dropLast.length = (s.unit r.unit).left.dropLast.map iRow by rw [← List.map_take, List.dropLast_eq_take]; simp] at hgc
    exact hgc
   have hA3 := hA2.set (u' := { (s.unit r.unit) with left := (s.unit r.unit).left.dropLast }) hg
   have hC : ((Hx ++ [VO.arr 93 10 [c.row]]).set l (.arr 194 4 [unRow { (s.unit r.unit) with left := (s.unit r.unit).left.dropLast } (.row false L 0 (s.unit r.unit).left.dropLast.length)]))[Hx.length]? = some (.arr 93 10 [c.row]) := get_set get_last (by have := hA.llt; omega)
   generalize ((Hx ++ [VO.arr 93 10 [c.row]]).set l (.arr 194 4 [unRow { (s.unit r.unit) with left := (s.unit r.unit).left.dropLast } (.row false L 0 (s.unit r.unit).left.dropLast.length)])) = H5 at hA3 hC ⊢
   refine wr ?_
   refine wN rfl rfl rfl (v270 rfl ?_)
   refine we rfl ?_
   refine vc_meetS (α := Unit) (fun _ => (rnone 8 ++ ([some (.int .i64 ((s.unit r.unit).left.dropLast.getLast?.getD 0))] ++ (rnone 147 ++ (rundef 18 ++ (rnone 96)))))) hA3.fr.len ?_ ?_
   ·
    intro Mo21 hMo21
    refine vs (wr ?_)
    iterate 3 refine wN rfl rfl rfl (v270 rfl ?_)
    refine wN (v := .row false L 0 (s.unit r.unit).left.dropLast.length) rfl (g_load hA3.un.obj rfl rfl) rfl (v270 rfl ?_)
    refine wN (v := .int .i64 (s.unit r.unit).left.dropLast.length) rfl (un_len hA3.un Tryz.underlying35) rfl (v270 rfl ?_)
    refine wN rfl rfl rfl (v270 rfl ?_)
    refine we rfl ?_
    refine vc_cond rfl (fun hc161 => ?_) (fun hc161 => ?_)
    ·
     obtain ⟨q2, hq2⟩ : ∃ q, (s.unit r.unit).left.dropLast[(s.unit r.unit).left.dropLast.length - 1]? = some q := ⟨_, List.getElem?_eq_getElem (by have := of_decide_eq_true hc161; omega)⟩
     have hpos2 : 0 < (s.unit r.unit).left.dropLast.length := by have := of_decide_eq_true hc161; omega
     have hl2 : (s.unit r.unit).left.dropLast.getLast? = some q2 := by rw [List.getLast?_eq_getElem?]; exact hq2
     have hlb2 := hleft r.unit
     obtain ⟨L2, rows2, hr2, hM1, hM2, _, _⟩ := left_at hA3.un hq2
     injection hr2 with _ hLL _ _
     subst hLL
     rw [show (s.unit r.unit).left.dropLast.length - 1 = (((s.unit r.unit).left.dropLast.length : Int) - 1).toNat by omega] at hM2
     refine w_regionD (by kernel_rfl) ?_
     iterate 3 refine dN rfl rfl rfl (d270 rfl ?_)
     refine dN (v := .row false L 0 (s.unit r.unit).left.dropLast.length) rfl (g_load hA3.un.obj rfl rfl) rfl (d270 rfl ?_)
     iterate 3 refine dN rfl rfl rfl (d270 rfl ?_)
     refine dN (v := .row false L 0 (s.unit r.unit).left.dropLast.length) rfl (g_load hA3.un.obj rfl rfl) rfl (d270 rfl ?_)
     refine dN (v := .int .i64 (s.unit r.unit).left.dropLast.length) rfl (un_len hA3.un Tryz.underlying35) rfl (d270 rfl ?_)
     refine dN (v := .int .i64 (((s.unit r.unit).left.dropLast.length : Int) - 1)) rfl (int_eq (i64_small (by omega) (by omega))) rfl (d270 rfl ?_)
     refine dN (v := .ptr L (((s.unit r.unit).left.dropLast.length : Int) - 1).toNat 0) rfl (g_index0 el35 hM1 (by omega) (by omega)) rfl (d270 rfl ?_)
     refine dN (v := .int .i64 q2) rfl (g_load hM1 hM2 rfl) rfl (d270 rfl ?_)
     refine dN rfl rfl rfl (d270 rfl ?_)
     refine d_end rfl ?_
     refine hMo21 () _ ?_
     repeat' first | exact trivial | refine ⟨.inr rfl, ?_⟩ | refine ⟨.inl rfl, ?_⟩ | refine ⟨.inl ?_, ?_⟩ | fail
     all_goals first | (rw [hl2]; rfl)
    have hl2 : (s.unit r.unit).left.dropLast.getLast? = none := by have := of_decide_eq_false hc161; rw [List.getLast?_eq_none_iff]; exact List.length_eq_zero_iff.1 (by omega)
    refine vc_skip (n_then ?_)
    refine hMo21 () _ ?_
    repeat' first | exact trivial | refine ⟨.inr rfl, ?_⟩ | refine ⟨.inl rfl, ?_⟩ | refine ⟨.inl ?_, ?_⟩ | fail
    all_goals first | (rw [hl2]; rfl)
   rintro _
   refine vc_norm (env' := (_ :: _ :: _ :: _ :: _ :: _ :: _ :: _ :: (.int .i64 ((s.unit r.unit).left.dropLast.getLast?.getD 0)) :: _ :: _ :: _ :: _ :: _ :: _ :: _ :: _ :: _ :: _ :: _ :: _ :: _ :: _ :: _ :: _ :: _ :: _ :: _ :: _ :: _ :: _ :: _ :: _ :: _ :: _ :: _ :: _ :: _ :: _ :: _ :: _ :: _ :: _ :: _ :: _ :: _ :: _ :: _ :: _ :: _ :: _ :: _ :: _ :: _ :: _ :: _ :: _ :: _ :: _ :: _ :: _ :: _ :: _ :: _ :: _ :: _ :: _ :: _ :: _ :: _ :: _ :: _ :: _ :: _ :: _ :: _ :: _ :: _ :: _ :: _ :: _ :: _ :: _ :: _ :: _ :: _ :: _ :: _ :: _ :: _ :: _ :: _ :: _ :: _ :: _ :: _ :: _ :: _ :: _ :: _ :: _ :: _ :: _ :: _ :: _ :: _ :: _ :: _ :: _ :: _ :: _ :: _ :: _ :: _ :: _ :: _ :: _ :: _ :: _ :: _ :: _ :: _ :: _ :: _ :: _ :: _ :: _ :: _ :: _ :: _ :: _ :: _ :: _ :: _ :: _ :: _ :: _ :: _ :: _ :: _ :: _ :: _ :: _ :: _ :: _ :: _ :: _ :: _ :: _ :: _ :: _ :: _ :: _ :: _ :: _ :: _ :: _ :: _ :: _ :: _ :: _ :: _ :: _ :: _ :: _ :: _ :: _ :: _ :: _ :: _ :: _ :: _ :: _ :: _ :: _ :: _ :: _ :: _ :: _ :: _ :: _ :: _ :: _ :: _ :: _ :: _ :: _ :: _ :: _ :: _ :: _ :: _ :: _ :: _ :: _ :: _ :: _ :: _ :: _ :: _ :: _ :: _ :: _ :: _ :: _ :: _ :: _ :: _ :: _ :: _ :: _ :: _ :: _ :: _ :: _ :: _ :: _ :: _ :: _ :: _ :: _ :: _ :: _ :: _ :: _ :: _ :: _ :: _ :: _ :: _ :: _ :: _ :: _ :: _ :: _ :: _ :: _ :: _ :: _ :: _ :: _ :: _ :: _ :: _ :: _ :: _ :: _ :: _ :: _ :: _ :: _ :: _ :: _ :: _ :: _ :: _ :: _ :: _ :: _ :: _ :: _ :: _ :: _ :: _ :: _ :: _ :: _ :: _ :: _ :: _ :: [])) (H' := _) rfl rfl ?_
   refine vs (vs (wr ?_))
   refine wN (v := .ptr Hx.length 0 2) rfl rfl rfl (v270 rfl ?_)
   refine wN (v := .int .i64 c.page) rfl (g_load hC rfl rfl) rfl (v270 rfl ?_)
   refine wN (v := .ptr H.length 0 2) rfl rfl rfl (v270 rfl ?_)
   refine wN (v := .int .i64 r.page) rfl (g_load hA3.box rfl rfl) rfl (v270 rfl ?_)
   iterate 2 refine wN rfl rfl rfl (v270 rfl ?_)
   apply w_or 6 179 (fun b => (rnone 179 ++ (rundef 6 ++ ([some (.bool b)] ++ (rnone 84))))) rfl
   ·
    intro hg179 hY179
    refine v270 rfl ?_
    iterate 5 refine wS (wanted_f 179 (by kernel_rfl) rfl) (v270 rfl ?_)
    refine wN rfl rfl rfl (v270 rfl ?_)
    refine hY179 _ ?_
    repeat' first | exact trivial | refine ⟨.inr rfl, ?_⟩ | refine ⟨.inl rfl, ?_⟩ | fail
   ·
    intro hg179 hY179
    refine v270 rfl ?_
    refine wN (v := .ptr Hx.length 0 3) (wanted_t 179 (by kernel_rfl) rfl) rfl rfl (v270 rfl ?_)
    refine wN (v := .int .i64 c.pos) (wanted_t 179 (by kernel_rfl) rfl) (g_load hC rfl rfl) rfl (v270 rfl ?_)
    refine wN (v := .ptr H.length 0 3) (wanted_t 179 (by kernel_rfl) rfl) rfl rfl (v270 rfl ?_)
    refine wN (v := .int .i64 r.pos) (wanted_t 179 (by kernel_rfl) rfl) (g_load hA3.box rfl rfl) rfl (v270 rfl ?_)
    refine wN (wanted_t 179 (by kernel_rfl) rfl) rfl rfl (v270 rfl ?_)
    refine wN rfl rfl rfl (v270 rfl ?_)
    refine hY179 _ ?_
    repeat' first | exact trivial | refine ⟨.inr rfl, ?_⟩ | refine ⟨.inl rfl, ?_⟩ | fail
   refine v270 rfl ?_
   refine wN rfl rfl rfl (v270 rfl ?_)
   apply w_or 7 186 (fun b => (rnone 186 ++ (rundef 7 ++ ([some (.bool b)] ++ (rnone 76))))) rfl
   ·
    intro hg186 hY186
    refine v270 rfl ?_
    iterate 6 refine wS (wanted_f 186 (by kernel_rfl) rfl) (v270 rfl ?_)
    refine wN rfl rfl rfl (v270 rfl ?_)
    refine hY186 _ ?_
    repeat' first | exact trivial | refine ⟨.inr rfl, ?_⟩ | refine ⟨.inl rfl, ?_⟩ | fail
   ·
    intro hg186 hY186
    refine v270 rfl ?_
    refine wN (v := .ptr Hx.length 0 4) (wanted_t 186 (by kernel_rfl) rfl) rfl rfl (v270 rfl ?_)
    refine wN (v := c.bef) (wanted_t 186 (by kernel_rfl) rfl) (g_load hC rfl rfl) rfl (v270 rfl ?_)
    refine wN (v := .ptr H.length 0 5) (wanted_t 186 (by kernel_rfl) rfl) rfl rfl (v270 rfl ?_)
    refine wN (v := r.aft) (wanted_t 186 (by kernel_rfl) rfl) (g_load hA3.box rfl rfl) rfl (v270 rfl ?_)
    refine w_callI (env' := _) (wanted_t 186 (by kernel_rfl) rfl) rfl rfl (by kernel_rfl) rfl (by repeat' first | exact IsL.lend ‹_› | exact IsL.lend0 ‹_› | refine mapL_cons ?_ ?_ | refine lend_agg ?_ | rfl) (sEqual G _ _ hcB hLa hcO.bef.2.2 hr.aft.2.2) rfl (v270 rfl ?_)
    refine wN (wanted_t 186 (by kernel_rfl) rfl) rfl rfl (v270 rfl ?_)
    refine wN rfl rfl rfl (v270 rfl ?_)
    refine hY186 _ ?_
    repeat' first | exact trivial | refine ⟨.inr rfl, ?_⟩ | refine ⟨.inl rfl, ?_⟩ | fail
   refine v270 rfl ?_
   refine wN rfl rfl rfl (v270 rfl ?_)
   apply w_or 5 194 (fun b => (rnone 194 ++ (rundef 5 ++ ([some (.bool b)] ++ (rnone 70))))) rfl
   ·
    intro hg194 hY194
    refine v270 rfl ?_
    iterate 4 refine wS (wanted_f 194 (by kernel_rfl) rfl) (v270 rfl ?_)
    refine wN rfl rfl rfl (v270 rfl ?_)
    refine hY194 _ ?_
    repeat' first | exact trivial | refine ⟨.inr rfl, ?_⟩ | refine ⟨.inl rfl, ?_⟩ | fail
   ·
    intro hg194 hY194
    refine v270 rfl ?_
    refine wN (v := .ptr H.length 0 7) (wanted_t 194 (by kernel_rfl) rfl) rfl rfl (v270 rfl ?_)
    refine wN (v := .int .i64 r.next) (wanted_t 194 (by kernel_rfl) rfl) (g_load hA3.box rfl rfl) rfl (v270 rfl ?_)
    iterate 2 refine wN (wanted_t 194 (by kernel_rfl) rfl) rfl rfl (v270 rfl ?_)
    refine wN rfl rfl rfl (v270 rfl ?_)
    refine hY194 _ ?_
    repeat' first | exact trivial | refine ⟨.inr rfl, ?_⟩ | refine ⟨.inl rfl, ?_⟩ | fail
   refine v270 rfl ?_
   refine we rfl ?_
   refine vc_cond rfl (fun hc199 => ?_) (fun hc199 => ?_)
   ·
    refine vs (wr ?_)
    refine wN rfl rfl rfl (v270 rfl ?_)
    refine we rfl (vc_ret (r_then (r_block (r_then (r_fn rfl ?_)))))
    have hn : s.follows r = false := by
     rw [follows_k hg0 hu0]
     simp only [St.kindOk, if_neg h1n, if_pos h2k, St.undoneOk, hlast, hc]
     simp only [bne] at hc199
     revert hc199
     cases (c.page == r.page) <;> cases (c.pos == r.pos) <;> cases (eqB (lrows c.bef) (lrows r.aft)) <;> cases (r.next == (s.unit r.unit).left.dropLast.getLast?.getD 0) <;> simp
    exact add_no hn hA3.fr
   have hok : s.undoneOk r = true := by
    simp only [St.undoneOk, hlast, hc]
    simp only [bne] at hc199
    revert hc199
    cases (c.page == r.page) <;> cases (c.pos == r.pos) <;> cases (eqB (lrows c.bef) (lrows r.aft)) <;> cases (r.next == (s.unit r.unit).left.dropLast.getLast?.getD 0) <;> simp
   refine vc_skip (n_then (wr ?_))
   refine wN (v := .ptr wx.lw 0 0) rfl rfl rfl (v270 rfl ?_)
   refine wN (v := .agg r.row) rfl (g_load hA3.box rfl rfl) rfl (v270 rfl ?_)
   refine w_callS rfl rfl rfl (by kernel_rfl) rfl (sLay G _ _ _ ow hA3.rep r hr hin (by show s.recs.length < _; omega)) ?_
   rintro _ H6 ⟨ep6, es6, ow6, hW6, hF6⟩
   obtain ⟨lv6, hA6⟩ := hA3.next hW6 hF6 rfl rfl rfl rfl hun
   refine v270 rfl ?_
   refine w_endB rfl (n_then ?_)
   refine hMo9 ⟨(_, _, _, _), mid_of hA6 (by omega) (by simp [St.mid, St.put, St.lay, laysB, Un.core, h2k, hun]) (by simp [Un.core, h2k]), by simp [St.kindOk, h2k, hok]⟩ _ _ (by first | (have := hA6.fr.len; simpa using this) | (have := hA3.fr.len; simp [hQl]; omega) | (have := hA2.fr.len; simp [hQl]; omega) | (have := hA.fr.len; simpa using this)) rfl ?_
   repeat' first | exact trivial | refine ⟨.inr rfl, ?_⟩ | refine ⟨.inl rfl, ?_⟩ | refine ⟨.inl ?_, ?_⟩ | fail
  have h2n : r.kind ≠ 2 := fun e => by rw [e] at hc108; cases hc108
  refine vs (wr ?_)
  iterate 2 refine wN rfl rfl rfl (v270 rfl ?_)
  refine we rfl ?_
  refine vc_cond rfl (fun hc203 => ?_) (fun hc203 => ?_)
  ·
   refine vs ?_
   have h3k : r.kind = 3 := eq_of_beq hc203
   have hun := guard_unit hg0 (by omega) (by omega)
   refine wr ?_
   iterate 3 refine wN rfl rfl rfl (v270 rfl ?_)
   refine w_op0N (H2 := (Hx.set l (.arr 194 4 [unRow { (s.unit r.unit) with stands := 2 } lv]))) rfl (g_store hA.un.obj rfl rfl sz3 ⟨rfl, by simp, by decide⟩) (rfl) (fun _ h => h) ?_
   refine we rfl ?_
   have hA2 := hA.put (u' := { (s.unit r.unit) with stands := 2 }) rfl
   generalize (Hx.set l (.arr 194 4 [unRow { (s.unit r.unit) with stands := 2 } lv])) = H5 at hA2 ⊢
   obtain ⟨rows, hvh⟩ := hA2.rep.vh
   have hrl := hvh.rlen
   have hwl2 := hA2.wl
   obtain ⟨H4, hQ, hQl, hQr, hQk⟩ := grow_app (P := Tryz.prog) (t := 35) (t2 := 35) (x := .list .tight [[.int .i64 r.unit]]) (news := [[.int .i64 r.unit]]) hvh el35 Tryz.underlying35 rfl zc3z by3z rfl rfl (by decide) (by decide) rfl rfl (by simp) (by simp only [List.length_singleton]; omega)
   simp only [List.length_singleton] at hQ
   refine w_regionD (by kernel_rfl) ?_
   iterate 2 refine dN (v := .ptr wx.lw 0 0) rfl rfl rfl (d270 rfl ?_)
   iterate 2 refine dN rfl rfl rfl (d270 rfl ?_)
   refine dN (v := wx.wv) rfl (g_load hA2.rep.wh rfl rfl) rfl (d270 rfl ?_)
   refine dN (v := .ptr H.length 0 1) rfl rfl rfl (d270 rfl ?_)
   refine dN (v := .int .i64 r.unit) rfl (g_load hA2.box rfl rfl) rfl (d270 rfl ?_)
   refine dN rfl rfl rfl (d270 rfl ?_)
   refine d_opH (v := .row false H5.length 0 (rows.length + 1)) (env' := _) (H2 := H4) rfl (hQ) (.inl rfl) rfl (rfl) (fun _ h => h) (d270 rfl ?_)
   iterate 2 refine dN rfl rfl rfl (d270 rfl ?_)
   refine d_op0 (H2 := (H4.set wx.lw (.arr 191 5 [[wx.rv, .mapr wx.lp, .mapr wx.ls, .mapr wx.lu, .row false H5.length 0 (rows.length + 1)]]))) rfl (g_store ((hQk wx.lw (lt_of hA2.rep.wh) (by rw [hA2.rep.wo]; simp)).trans hA2.rep.wh) rfl rfl sz35 ⟨rfl, by simp, by decide⟩) (.inl rfl) (rfl) (fun _ h => h) ?_
   refine d_endB rfl (n_then ?_)
   refine hMo9 ⟨(_, _, _, _), mid_of (hA2.win (n := rows.length + 1) (by simp) hun hQl hQr hQk) (by omega) (by simp [St.mid, St.put, laysB, Un.core, h3k, hun]) (by simp [Un.core, h3k]), by simp [St.kindOk, h3k]⟩ _ _ (by first | (have := hA6.fr.len; simpa using this) | (have := hA3.fr.len; simp [hQl]; omega) | (have := hA2.fr.len; simp [hQl]; omega) | (have := hA.fr.len; simpa using this)) rfl ?_
   repeat' first | exact trivial | refine ⟨.inr rfl, ?_⟩ | refine ⟨.inl rfl, ?_⟩ | refine ⟨.inl ?_, ?_⟩ | fail
  have h3n : r.kind ≠ 3 := fun e => by rw [e] at hc203; cases hc203
  refine vs (wr ?_)
  iterate 2 refine wN rfl rfl rfl (v270 rfl ?_)
  refine we rfl ?_
  refine vc_cond rfl (fun hc219 => ?_) (fun hc219 => ?_)
  ·
   refine vs (vs ?_)
   have h4k : r.kind = 4 := eq_of_beq hc219
   have hun := guard_unit hg0 (by omega) (by omega)
   refine wr ?_
   iterate 3 refine wN rfl rfl rfl (v270 rfl ?_)
   refine wN (v := lv) rfl (g_load hA.un.obj rfl rfl) rfl (v270 rfl ?_)
   refine wN (v := .int .i64 (s.unit r.unit).left.length) rfl (un_len hA.un Tryz.underlying35) rfl (v270 rfl ?_)
   refine wN rfl rfl rfl (v270 rfl ?_)
   refine we rfl ?_
   refine vc_cond rfl (fun hc226 => ?_) (fun hc226 => ?_)
   ·
    refine vs (wr ?_)
    refine wN rfl rfl rfl (v270 rfl ?_)
    refine we rfl (vc_ret (r_then (r_block (r_then (r_fn rfl ?_)))))
    have hn : s.follows r = false := by
     rw [follows_k hg0 hu0]
     have hne : (s.unit r.unit).left ≠ [] := fun e => by rw [e] at hc226; cases hc226
     simp [St.kindOk, h4k, hne]
    exact add_no hn hA.fr
   have hle : (s.unit r.unit).left = [] := by have := of_decide_eq_false hc226; exact List.length_eq_zero_iff.1 (by omega)
   refine vc_skip (n_then (wr ?_))
   iterate 3 refine wN rfl rfl rfl (v270 rfl ?_)
   refine w_op0N (H2 := (Hx.set l (.arr 194 4 [unRow { (s.unit r.unit) with stands := 3 } lv]))) rfl (g_store hA.un.obj rfl rfl sz3 ⟨rfl, by simp, by decide⟩) (rfl) (fun _ h => h) ?_
   refine w_endB rfl (n_then ?_)
   refine hMo9 ⟨(_, _, _, _), mid_of (hA.put (u' := { (s.unit r.unit) with stands := 3 }) rfl) (by omega) (by simp [St.mid, St.put, laysB, Un.core, h4k, hun]) (by simp [Un.core, h4k]), by simp [St.kindOk, h4k, hle]⟩ _ _ (by first | (have := hA6.fr.len; simpa using this) | (have := hA3.fr.len; simp [hQl]; omega) | (have := hA2.fr.len; simp [hQl]; omega) | (have := hA.fr.len; simpa using this)) rfl ?_
   repeat' first | exact trivial | refine ⟨.inr rfl, ?_⟩ | refine ⟨.inl rfl, ?_⟩ | refine ⟨.inl ?_, ?_⟩ | fail
  have h4n : r.kind ≠ 4 := fun e => by rw [e] at hc219; cases hc219
  refine vs (wr ?_)
  iterate 2 refine wN rfl rfl rfl (v270 rfl ?_)
  refine we rfl ?_
  refine vc_cond rfl (fun hc230 => ?_) (fun hc230 => ?_)
  ·
   have h5k : r.kind = 5 := eq_of_beq hc230
   have hun := guard_unit hg0 (by omega) (by omega)
   have hA5 := hA.put (u' := { (s.unit r.unit) with stands := 1 }) rfl
   have hA6 := hA5.put (u' := { (s.unit r.unit) with stands := 1, ready := r.text }) rfl
   refine w_regionW [(Hx.set l (.arr 194 4 [unRow { (s.unit r.unit) with stands := 1 } lv])), ((Hx.set l (.arr 194 4 [unRow { (s.unit r.unit) with stands := 1 } lv])).set l (.arr 194 4 [unRow { (s.unit r.unit) with stands := 1, ready := r.text } lv]))] (by kernel_rfl) ?_
   refine e_op (env' := _) rfl (by decide) (show _ = (0, 0) by kernel_rfl) (by decide) (fun _ _ h => h) (fun q h1 h2 => rfl) rfl (w270 rfl ?_)
   refine e_op (env' := _) rfl (by decide) (show _ = (0, 1) by kernel_rfl) (by decide) (fun _ _ h => h) (fun q h1 h2 => rfl) rfl (w270 rfl ?_)
   refine e_op (v := .ptr H.length 0 8) (env' := _) rfl (by decide) (show _ = (0, 1) by kernel_rfl) (by decide) (fun _ _ h => h) (fun q h1 h2 => rfl) rfl (w270 rfl ?_)
   refine e_op (v := .str r.text) (env' := _) rfl (by decide) (show _ = (0, 1) by kernel_rfl) (by decide) (fun _ _ h => h) (fun q h1 h2 => (match q, h1, h2 with | 0, _, _ => g_load hA.box rfl rfl | 1, _, _ => g_load hA5.box rfl rfl | q + 2, _, h2 => absurd h2 (by omega))) rfl (w270 rfl ?_)
   iterate 2 refine e_op (env' := _) rfl (by decide) (show _ = (0, 0) by kernel_rfl) (by decide) (fun _ _ h => h) (fun q h1 h2 => rfl) rfl (w270 rfl ?_)
   refine e_eff0 (H0 := _) (H1 := (Hx.set l (.arr 194 4 [unRow { (s.unit r.unit) with stands := 1 } lv]))) rfl rfl (show _ = (0, 1) by kernel_rfl) rfl rfl (fun _ _ h => h) (g_store (i := 0) (k := 0) (x := .int .i64 1) (cs := [.int .i64 1]) hA.un.obj rfl rfl sz3 ⟨rfl, by simp, by decide⟩) ?_
   iterate 2 refine e_op (env' := _) rfl (by decide) (show _ = (1, 1) by kernel_rfl) (by decide) (fun _ _ h => h) (fun q h1 h2 => rfl) rfl (w270 rfl ?_)
   refine e_eff0 (H0 := (Hx.set l (.arr 194 4 [unRow { (s.unit r.unit) with stands := 1 } lv]))) (H1 := ((Hx.set l (.arr 194 4 [unRow { (s.unit r.unit) with stands := 1 } lv])).set l (.arr 194 4 [unRow { (s.unit r.unit) with stands := 1, ready := r.text } lv]))) rfl rfl (show _ = (1, 2) by kernel_rfl) rfl rfl (fun _ _ h => h) (g_store (i := 0) (k := 2) (x := .str r.text) (cs := [.str r.text]) hA5.un.obj rfl rfl sz9 ⟨rfl, by simp, by decide⟩) ?_
   refine e_endB (H' := ((Hx.set l (.arr 194 4 [unRow { (s.unit r.unit) with stands := 1 } lv])).set l (.arr 194 4 [unRow { (s.unit r.unit) with stands := 1, ready := r.text } lv]))) rfl ?_
   refine n_then ?_
   refine hMo9 ⟨(_, _, _, _), mid_of hA6 (by omega) (by simp [St.mid, St.put, laysB, Un.core, h5k, hun, fset_fset]) (by simp [Un.core, h5k]), by simp [St.kindOk, h5k]⟩ _ _ (by first | (have := hA6.fr.len; simpa using this) | (have := hA3.fr.len; simp [hQl]; omega) | (have := hA2.fr.len; simp [hQl]; omega) | (have := hA.fr.len; simpa using this)) rfl ?_
   repeat' first | exact trivial | refine ⟨.inr rfl, ?_⟩ | refine ⟨.inl rfl, ?_⟩ | refine ⟨.inl ?_, ?_⟩ | fail
  have h5n : r.kind ≠ 5 := fun e => by rw [e] at hc230; cases hc230
  refine vs (wr ?_)
  iterate 2 refine wN rfl rfl rfl (v270 rfl ?_)
  refine we rfl ?_
  refine vc_cond rfl (fun hc240 => ?_) (fun hc240 => ?_)
  ·
   refine vs ?_
   have h6k : r.kind = 6 := eq_of_beq hc240
   refine w_regionW [Hx] (by kernel_rfl) ?_
   refine e_op (v := .ptr H.length 0 9) (env' := _) rfl (by decide) (show _ = (0, 1) by kernel_rfl) (by decide) (fun _ _ h => h) (fun q h1 h2 => rfl) rfl (w270 rfl ?_)
   refine e_op (v := r.opn) (env' := _) rfl (by decide) (show _ = (0, 1) by kernel_rfl) (by decide) (fun _ _ h => h) (fun q h1 h2 => (match q, h1, h2 with | 0, _, _ => g_load hA.box rfl rfl | 1, _, _ => g_load hA.box rfl rfl | q + 2, _, h2 => absurd h2 (by omega))) rfl (w270 rfl ?_)
   refine e_op (v := .ptr wx.lw 0 0) (env' := _) rfl (by decide) (show _ = (0, 0) by kernel_rfl) (by decide) (fun _ _ h => h) (fun q h1 h2 => rfl) rfl (w270 rfl ?_)
   refine e_callS (H0 := _) (H1 := Hx) (env' := _) rfl rfl rfl (by kernel_rfl) rfl (show _ = (0, 1) by kernel_rfl) rfl rfl (sOpen G _ wx s ow hA.rep _ hA.keys (by omega) hleft) rfl (w270 rfl ?_)
   refine e_callI rfl rfl rfl (by kernel_rfl) rfl (show _ = (1, 1) by kernel_rfl) (by decide) (fun q h1 h2 => mapL_cons hLo.lend (mapL_cons IsL_plist.lend rfl)) (sEqOpens G _ _ r.opens s.opens hLo IsL_plist hr.rows lrows_plist hr.len) rfl (w270 rfl ?_)
   refine e_op (env' := _) rfl (by decide) (show _ = (1, 1) by kernel_rfl) (by decide) (fun _ _ h => h) (fun q h1 h2 => rfl) rfl (w270 rfl ?_)
   refine e_end (H' := Hx) rfl ?_
   refine vc_cond rfl (fun hc247 => ?_) (fun hc247 => ?_)
   ·
    refine vs (wr ?_)
    refine wN rfl rfl rfl (v270 rfl ?_)
    refine we rfl (vc_ret (r_block (r_then (r_fn rfl ?_))))
    have hn : s.follows r = false := by
     rw [follows_k hg0 hu0]
     simp only [Bool.not_eq_true'] at hc247
     simp [St.kindOk, h6k, hc247]
    exact add_no hn hA.fr
   have hso : sameOpens r.opens s.opens = true := by simpa using hc247
   refine vc_skip (n_block (n_then ?_))
   refine hMo9 ⟨(_, _, _, _), mid_of hA (by omega) (mid_same2 (by simp [laysB, h6k]) (by simp [Un.core, h6k])) (by simp [Un.core, h6k]), by simp [St.kindOk, h6k, hso]⟩ _ _ (by first | (have := hA6.fr.len; simpa using this) | (have := hA3.fr.len; simp [hQl]; omega) | (have := hA2.fr.len; simp [hQl]; omega) | (have := hA.fr.len; simpa using this)) rfl ?_
   repeat' first | exact trivial | refine ⟨.inr rfl, ?_⟩ | refine ⟨.inl rfl, ?_⟩ | refine ⟨.inl ?_, ?_⟩ | fail
  have h6n : r.kind ≠ 6 := fun e => by rw [e] at hc240; cases hc240
  refine vc_skip (n_block (n_then ?_))
  refine hMo9 ⟨(_, _, _, _), mid_of hA (by omega) (mid_same2 (by simp [laysB, h1n, h2n]) (by simp [Un.core, h1n, h2n, h3n, h4n, h5n])) (by simp [Un.core, h1n, h2n, h3n, h4n, h5n]), by simp [St.kindOk, h1n, h2n, h4n, h6n]⟩ _ _ (by first | (have := hA6.fr.len; simpa using this) | (have := hA3.fr.len; simp [hQl]; omega) | (have := hA2.fr.len; simp [hQl]; omega) | (have := hA.fr.len; simpa using this)) rfl ?_
  repeat' first | exact trivial | refine ⟨.inr rfl, ?_⟩ | refine ⟨.inl rfl, ?_⟩ | refine ⟨.inl ?_, ?_⟩ | fail
 rintro ⟨⟨Hy, wy, owy, lvy⟩, hB, hkk⟩ hnbo9
 refine vc_norm (env' := (_ :: _ :: _ :: _ :: _ :: _ :: _ :: _ :: _ :: _ :: _ :: _ :: _ :: _ :: _ :: _ :: _ :: _ :: _ :: _ :: _ :: _ :: _ :: _ :: _ :: _ :: _ :: _ :: _ :: _ :: _ :: _ :: _ :: _ :: _ :: _ :: _ :: _ :: _ :: _ :: _ :: _ :: _ :: _ :: _ :: _ :: _ :: _ :: _ :: _ :: _ :: _ :: _ :: _ :: _ :: _ :: _ :: _ :: _ :: _ :: _ :: _ :: _ :: _ :: _ :: _ :: _ :: _ :: _ :: _ :: _ :: _ :: _ :: _ :: _ :: _ :: _ :: _ :: _ :: _ :: _ :: _ :: _ :: _ :: _ :: _ :: _ :: _ :: _ :: _ :: _ :: _ :: _ :: _ :: _ :: _ :: _ :: _ :: _ :: _ :: _ :: _ :: _ :: _ :: _ :: _ :: _ :: _ :: _ :: _ :: _ :: _ :: _ :: _ :: _ :: _ :: _ :: _ :: _ :: _ :: _ :: _ :: _ :: _ :: _ :: _ :: _ :: _ :: _ :: _ :: _ :: _ :: _ :: _ :: _ :: _ :: _ :: _ :: _ :: _ :: _ :: _ :: _ :: _ :: _ :: _ :: _ :: _ :: _ :: _ :: _ :: _ :: _ :: _ :: _ :: _ :: _ :: _ :: _ :: _ :: _ :: _ :: _ :: _ :: _ :: _ :: _ :: _ :: _ :: _ :: _ :: _ :: _ :: _ :: _ :: _ :: _ :: _ :: _ :: _ :: _ :: _ :: _ :: _ :: _ :: _ :: _ :: _ :: _ :: _ :: _ :: _ :: _ :: _ :: _ :: _ :: _ :: _ :: _ :: _ :: _ :: _ :: _ :: _ :: _ :: _ :: _ :: _ :: _ :: _ :: _ :: _ :: _ :: _ :: _ :: _ :: _ :: _ :: _ :: _ :: _ :: _ :: _ :: _ :: _ :: _ :: _ :: _ :: _ :: _ :: _ :: _ :: _ :: _ :: _ :: _ :: _ :: _ :: _ :: _ :: _ :: _ :: _ :: _ :: _ :: _ :: _ :: _ :: _ :: _ :: _ :: _ :: _ :: _ :: _ :: _ :: _ :: _ :: _ :: _ :: _ :: _ :: _ :: _ :: _ :: _ :: _ :: _ :: _ :: _ :: [])) (H' := Hy) rfl rfl ?_
 replace hB : AU H w own r Hy wy owy l lvy (s.mid r) ((s.unit r.unit).core r ((s.recs.length : Int) + 1)) (s.recs.length + 1) (s.recs.length + 1) := hB
 have hf : s.follows r = true := by rw [follows_k hg0 hu0]; exact hkk
 rw [hA.lw, ← hB.lw]
 refine vs (wr ?_)
 iterate 4 refine wN rfl rfl rfl (v270 rfl ?_)
 refine wN (v := .bool ((s.unit r.unit).core r ((s.recs.length : Int) + 1)).seen) rfl (g_load hB.un.obj rfl rfl) rfl (v270 rfl ?_)
 refine wN rfl rfl rfl (v270 rfl ?_)
 apply w_or 4 253 (fun b => (rnone 253 ++ (rundef 4 ++ ([some (.bool b)] ++ (rnone 12))))) rfl
 ·
  intro hg253 hY253
  refine v270 rfl ?_
  iterate 3 refine wS (wanted_f 253 (by kernel_rfl) rfl) (v270 rfl ?_)
  refine wN rfl rfl rfl (v270 rfl ?_)
  refine hY253 _ ?_
  repeat' first | exact trivial | refine ⟨.inr rfl, ?_⟩ | refine ⟨.inl rfl, ?_⟩ | fail
 ·
  intro hg253 hY253
  refine v270 rfl ?_
  refine wN (v := .ptr H.length 0 0) (wanted_t 253 (by kernel_rfl) rfl) rfl rfl (v270 rfl ?_)
  refine wN (v := .int .i64 r.kind) (wanted_t 253 (by kernel_rfl) rfl) (g_load hB.box rfl rfl) rfl (v270 rfl ?_)
  refine wN (wanted_t 253 (by kernel_rfl) rfl) rfl rfl (v270 rfl ?_)
  refine wN rfl rfl rfl (v270 rfl ?_)
  refine hY253 _ ?_
  repeat' first | exact trivial | refine ⟨.inr rfl, ?_⟩ | refine ⟨.inl rfl, ?_⟩ | fail
 refine v270 rfl ?_
 iterate 2 refine wN rfl rfl rfl (v270 rfl ?_)
 refine w_op0N (H2 := (Hy.set l (.arr 194 4 [unRow ((s.unit r.unit).step r ((s.recs.length : Int) + 1)) lvy]))) rfl (g_store hB.un.obj rfl rfl sz4 ⟨rfl, by simp, by decide⟩) (rfl) (fun _ h => h) ?_
 refine we rfl (vs ?_)
 have hB2 := hB.put (u' := (s.unit r.unit).step r ((s.recs.length : Int) + 1)) rfl
 generalize (Hy.set l (.arr 194 4 [unRow ((s.unit r.unit).step r ((s.recs.length : Int) + 1)) lvy])) = Hz at hB2 ⊢
 obtain ⟨H9, hQ, hQl, hQr, hQk⟩ := grow_app (P := Tryz.prog) (t := 43) (t2 := 43) (x := .list .tight [r.row]) (news := [r.row]) hB2.rep.rh el43b Tryz.underlying43 rfl zc93 by93 rfl rfl (by decide) (by decide) rfl rfl (by simp) (by simp only [List.length_map, List.length_singleton]; show (s.recs.length + 1) * 136 ≤ _; omega)
 rw [List.length_map] at hQ
 refine w_regionD (by kernel_rfl) ?_
 iterate 2 refine dN (v := .ptr wy.lw 0 0) rfl rfl rfl (d270 rfl ?_)
 iterate 2 refine dN rfl rfl rfl (d270 rfl ?_)
 refine dN (v := wy.rv) rfl (g_load hB2.rep.wh rfl rfl) rfl (d270 rfl ?_)
 refine dN (v := .agg r.row) rfl (g_load hB2.box rfl rfl) rfl (d270 rfl ?_)
 refine dN (v := .list .tight [r.row]) rfl (g_buildL el43b zc93 ⟨rfl, by decide, by decide⟩ rfl rfl hr.val) rfl (d270 rfl ?_)
 refine d_opH (v := .row false Hz.length 0 (s.recs.length + 1)) (env' := _) (H2 := H9) rfl (hQ) (.inl rfl) rfl (rfl) (fun _ h => h) (d270 rfl ?_)
 iterate 2 refine dN rfl rfl rfl (d270 rfl ?_)
 refine d_op0 (H2 := (H9.set wy.lw (.arr 191 5 [[.row false Hz.length 0 (s.recs.length + 1), .mapr wy.lp, .mapr wy.ls, .mapr wy.lu, wy.wv]]))) rfl (g_store ((hQk wy.lw (lt_of hB2.rep.wh) (by rw [hB2.rep.wo]; simp)).trans hB2.rep.wh) rfl rfl sz43 ⟨rfl, by simp, by decide⟩) (.inl rfl) (rfl) (fun _ h => h) ?_
 refine d_end rfl (vs (wr ?_))
 refine wN rfl rfl rfl (v270 rfl ?_)
 refine we rfl (vc_ret (r_fn rfl ?_))
 exact hB2.done hr hf (St.mid_add s r) hQl hQr hQk rfl rfl
end Go.Vi
namespace Go.Vi
open Go Go.Vi Go.Proofs
attribute [local irreducible] vops vopsD vc
theorem ag144 : aggOf Tryz.prog 144 = some false := by kernel_rfl
theorem ag43 : aggOf Tryz.prog 43 = some false := by kernel_rfl
theorem el144 : elemAt Tryz.prog 144 = some (none, 168, 1) := by kernel_rfl
theorem zc168 : zcOf Tryz.prog 168 = some [.nilp] := by kernel_rfl
theorem by168 : byOf Tryz.prog 168 = some 8 := by kernel_rfl
theorem g_loadW {P : Program} {H : Hp} {t T : TypeId} {l k sz : Nat} {cs : List AV} {x : AV} (hl : H[l]? = some (.arr T sz [cs])) (hx : cs[k]? = some x) (ha : aggOf P t = some false) : (vload P H t (.ptr l 0 k)).map (·, H) = some (x, H) := by
 have : ldCells P t (cs.drop k) = some x := by
  simp only [ldCells, ha, List.getElem?_drop, Nat.add_zero, hx]
 exact g_load hl rfl this
theorem rus_at {H : Hp} {w : Rst} {s : St} {own : Nat → Own} (h : RRep H w s own) {i : Nat} {p : Int × Nat} (hi : w.us[i]? = some p) : ∃ L rows0, w.uv = .row false L 0 w.us.length ∧ H[L]? = some (.arr 168 1 rows0) ∧ rows0[i]? = some [.ptr p.2 0 0] := by
 have hlt := (List.getElem?_eq_some_iff.1 hi).1
 rcases h.uh with ⟨_, h2⟩ | ⟨L, rows0, h1, h2, h3, h4⟩
 · simp only [List.map_eq_nil_iff] at h2; rw [h2] at hlt; simp at hlt
 rw [List.length_map] at h1 h4
 refine ⟨L, rows0, h1, h3, ?_⟩
 have := congrArg (·[i]?) h4
 simp only [List.getElem?_take, hlt, if_true, List.getElem?_map, hi, Option.map_some, uRow] at this
 exact this
theorem rrec_at {H : Hp} {w : Rst} {s : St} {own : Nat → Own} (h : RRep H w s own) {i : Nat} {c : Rc} (hc : s.recs[i]? = some c) : ∃ L rows0, w.rv = .row false L 0 s.recs.length ∧ H[L]? = some (.arr 93 10 rows0) ∧ rows0[i]? = some c.row := by
 have hi := (List.getElem?_eq_some_iff.1 hc).1
 rcases h.rh with ⟨_, h2⟩ | ⟨L, rows0, h1, h2, h3, h4⟩
 · simp only [List.map_eq_nil_iff] at h2; rw [h2] at hi; simp at hi
 rw [List.length_map] at h1 h4
 refine ⟨L, rows0, h1, h3, ?_⟩
 have := congrArg (·[i]?) h4
 simp only [List.getElem?_take, hi, if_true, List.getElem?_map, hc, Option.map_some] at this
 exact this
theorem rleft_at {H : Hp} {own : Nat → Own} {l : Nat} {lv : AV} {u : Un} {k : Int} {n : Int} (h : UnR H own n l lv u) {i : Nat} (hk : u.left[i]? = some k) : ∃ L rows0, lv = .row false L 0 u.left.length ∧ H[L]? = some (.arr 3 1 rows0) ∧ rows0[i]? = some [.int .i64 k] ∧ own L = .left n ∧ rows0.take u.left.length = u.left.map iRow := by
 have hi := (List.getElem?_eq_some_iff.1 hk).1
 rcases h.left with ⟨_, h2⟩ | ⟨L, rows0, h1, h2, h3, h4⟩
 · simp only [List.map_eq_nil_iff] at h2; rw [h2] at hi; simp at hi
 rw [List.length_map] at h1 h4
 refine ⟨L, rows0, h1, h3, ?_, h2, h4⟩
 have := congrArg (·[i]?) h4
 simp only [List.getElem?_take, hi, if_true, List.getElem?_map, hk, Option.map_some, iRow] at this
 exact this
theorem rus_len {H : Hp} {w : Rst} {s : St} {own : Nat → Own} (h : RRep H w s own) : (vlen Tryz.prog H 144 w.uv).map (·, H) = some (.int .i64 w.us.length, H) := by
 have := GrowIs.len h.uh Tryz.underlying144
 rwa [List.length_map] at this
theorem rleft_len {H : Hp} {own : Nat → Own} {l : Nat} {lv : AV} {u : Un} {n : Int} (h : UnR H own n l lv u) : (vlen Tryz.prog H 35 lv).map (·, H) = some (.int .i64 u.left.length, H) := by
 have := GrowIs.len h.left Tryz.underlying35
 rwa [List.length_map] at this
theorem rfind_at {us : List (Int × Nat)} {k : Int} {i : Nat} {p : Int × Nat} (hn : ∀ j p, j < i → us[j]? = some p → p.1 ≠ k) (hi : us[i]? = some p) (hk : p.1 = k) : rfind us k = .ptr p.2 0 0 := by
 have : us.find? (fun p => p.1 == k) = some p := by
  rw [List.find?_eq_some_iff_getElem]
  obtain ⟨h1, h2⟩ := List.getElem?_eq_some_iff.1 hi
  exact ⟨by simp [hk], i, h1, h2, fun j hj => by have := hn j _ hj (List.getElem?_eq_getElem (by omega)); simp [this]⟩
 rw [rfind, this]
theorem rfind_no {us : List (Int × Nat)} {k : Int} {i : Nat} (hn : ∀ j p, j < i → us[j]? = some p → p.1 ≠ k) (hi : us.length ≤ i) : rfind us k = .nilp := by
 have : us.find? (fun p => p.1 == k) = none := by
  rw [List.find?_eq_none]
  intro x hx
  obtain ⟨j, hj⟩ := List.mem_iff_getElem?.1 hx
  have := hn j x (by have := (List.getElem?_eq_some_iff.1 hj).1; omega) hj
  simp [this]
 rw [rfind, this]
structure OpI (s : St) (us : List (Int × Nat)) (i : Nat) (lo : List Ro) : Prop where
 asc : lo.Pairwise (fun a b => a.unit < b.unit)
 mem : ∀ x, x ∈ lo ↔ ∃ p ∈ us.take i, isOpenU (s.unit p.1) = true ∧ x = roOf p.1 (s.unit p.1)
theorem OpI.len {s : St} {us : List (Int × Nat)} {i : Nat} {lo : List Ro} (h : OpI s us i lo) (hi : i ≤ us.length) : lo.length ≤ us.length := by
 have h1 : ∀ x ∈ lo, x ∈ (us.take i).map fun p => roOf p.1 (s.unit p.1) := fun x hx => by
  obtain ⟨p, hp, _, rfl⟩ := (h.mem x).1 hx
  exact List.mem_map.2 ⟨p, hp, rfl⟩
 have hnd : lo.Nodup := h.asc.imp fun {a b} hab e => by subst e; omega
 have := hnd.length_le_of_subset h1
 simp at this
 omega
theorem OpI.skip {s : St} {us : List (Int × Nat)} {i : Nat} {lo : List Ro} (h : OpI s us i lo) {p : Int × Nat} (hp : us[i]? = some p) (ho : isOpenU (s.unit p.1) = false) : OpI s us (i + 1) lo := by
 refine ⟨h.asc, fun x => (h.mem x).trans ?_⟩
 rw [List.take_add_one, hp]
 constructor
 · rintro ⟨q, hq, h1, h2⟩; exact ⟨q, by simp [hq], h1, h2⟩
 rintro ⟨q, hq, h1, h2⟩
 rcases List.mem_append.1 hq with hq | hq
 · exact ⟨q, hq, h1, h2⟩
 simp at hq; subst hq; rw [ho] at h1; cases h1
def insK (lo : List Ro) (k : Nat) (x : Ro) : List Ro := lo.take k ++ x :: lo.drop k
theorem OpI.ins {s : St} {us : List (Int × Nat)} {i k : Nat} {lo : List Ro} (h : OpI s us i lo) {p : Int × Nat} (hp : us[i]? = some p) (hnd : (us.map (·.1)).Nodup) (ho : isOpenU (s.unit p.1) = true) (hk : k ≤ lo.length) (hgt : ∀ j y, k ≤ j → lo[j]? = some y → y.unit > p.1) (hle : k = 0 ∨ ∃ y, lo[k - 1]? = some y ∧ ¬ y.unit > p.1) : OpI s us (i + 1) (insK lo k (roOf p.1 (s.unit p.1))) := by
 have hne : ∀ x ∈ lo, x.unit ≠ p.1 := fun x hx e => by
  obtain ⟨q, hq, _, rfl⟩ := (h.mem x).1 hx
  obtain ⟨j, hj⟩ := List.mem_iff_getElem?.1 hq
  have hji : j < i := by have := (List.getElem?_eq_some_iff.1 hj).1; simp at this; omega
  rw [List.getElem?_take_of_lt hji] at hj
  have h1 : (us.map (·.1))[j]? = some p.1 := by rw [List.getElem?_map, hj]; simp; exact e
  have h2 : (us.map (·.1))[i]? = some p.1 := by rw [List.getElem?_map, hp]; rfl
  obtain ⟨a1, a2⟩ := List.getElem?_eq_some_iff.1 h1
  obtain ⟨b1, b2⟩ := List.getElem?_eq_some_iff.1 h2
  have := (List.getElem_inj hnd).1 (a2.trans b2.symm)
  omega
 have hlow : ∀ y ∈ lo.take k, y.unit < p.1 := fun y hy => by
  rcases hle with rfl | ⟨z, hz, hzp⟩
  · simp at hy
  have hk0 : 0 < k := by
   rcases Nat.eq_zero_or_pos k with rfl | h
   · simp at hy
   · exact h
  have hzn := hne z (List.mem_of_getElem? hz)
  obtain ⟨j, hj⟩ := List.mem_iff_getElem?.1 hy
  have hjk : j < k := by have := (List.getElem?_eq_some_iff.1 hj).1; simp at this; omega
  rw [List.getElem?_take_of_lt hjk] at hj
  by_cases e : j = k - 1
  · subst e; rw [hz] at hj; cases hj; omega
  obtain ⟨a1, a2⟩ := List.getElem?_eq_some_iff.1 hj
  obtain ⟨b1, b2⟩ := List.getElem?_eq_some_iff.1 hz
  have := List.pairwise_iff_getElem.1 h.asc j (k - 1) a1 b1 (by omega)
  rw [a2, b2] at this
  omega
 have hhigh : ∀ y ∈ lo.drop k, p.1 < y.unit := fun y hy => by
  obtain ⟨j, hj⟩ := List.mem_iff_getElem?.1 hy
  rw [List.getElem?_drop] at hj
  exact hgt _ y (by omega) hj
 refine ⟨?_, fun x => ?_⟩
 · unfold insK
   rw [List.pairwise_append]
   refine ⟨h.asc.sublist (List.take_sublist _ _), List.pairwise_cons.2 ⟨fun y hy => hhigh y hy, h.asc.sublist (List.drop_sublist _ _)⟩, fun a ha b hb => ?_⟩
   rcases List.mem_cons.1 hb with rfl | hb
   · exact hlow a ha
   have := hlow a ha; have := hhigh b hb; omega
 have hmem : x ∈ insK lo k (roOf p.1 (s.unit p.1)) ↔ x = roOf p.1 (s.unit p.1) ∨ x ∈ lo := by
  unfold insK
  rw [List.mem_append, List.mem_cons]
  have : x ∈ lo ↔ x ∈ lo.take k ∨ x ∈ lo.drop k := by
   have := List.mem_append (a := x) (s := lo.take k) (t := lo.drop k)
   rwa [List.take_append_drop] at this
  rw [this]
  constructor
  · rintro (h | h | h)
    · exact .inr (.inl h)
    · exact .inl h
    · exact .inr (.inr h)
  · rintro (h | h | h)
    · exact .inr (.inl h)
    · exact .inl h
    · exact .inr (.inr h)
 rw [hmem, h.mem, List.take_add_one, hp]
 constructor
 · rintro (rfl | ⟨q, hq, h1, h2⟩)
   · exact ⟨p, by simp, ho, rfl⟩
   exact ⟨q, by simp [hq], h1, h2⟩
 rintro ⟨q, hq, h1, h2⟩
 rcases List.mem_append.1 hq with hq | hq
 · exact .inr ⟨q, hq, h1, h2⟩
 simp at hq; subst hq; exact .inl h2
theorem OpI.opens {H : Hp} {w : Rst} {s : St} {own : Nat → Own} (hW : RRep H w s own) {i : Nat} {lo : List Ro} (h : OpI s w.us i lo) (hi : w.us.length ≤ i) : s.opens = lo := by
 refine Opens.eq ⟨h.asc, fun x => (h.mem x).trans ?_⟩
 rw [List.take_of_length_le hi]
 constructor
 · rintro ⟨p, _, h1, h2⟩; exact ⟨p.1, h1, h2⟩
 rintro ⟨k, h1, h2⟩
 have hs : (s.unit k).seen = true := by simp only [isOpenU, Bool.and_eq_true] at h1; exact h1.1
 obtain ⟨p, hp, rfl⟩ := List.mem_map.1 ((hW.seen k).1 hs)
 exact ⟨p, hp, h1, h2⟩
set_option maxHeartbeats 4000000 in
theorem sFind (G : Glob) (H : Hp) (w : Rst) (s : St) (own : Nat → Own) (hW : RRep H w s own) (hus : w.us.length ≤ 1000000) (k : Int) : XS Tryz.prog G 123 [.ptr w.lw 0 0, .int .i64 k] H (fun v H' => v = rfind w.us k ∧ H' = H) := by
 refine xs_body (fun o => match o.op with | .call ⟨.value _, _, _⟩ => .shr | .call ⟨.builtin .append, _, _⟩ => .shr | _ => .iso) Tryz.func123 rfl ?_
 refine vc_norm (env' := (_ :: _ :: _ :: _ :: _ :: _ :: _ :: _ :: _ :: _ :: _ :: _ :: _ :: _ :: _ :: _ :: _ :: _ :: _ :: _ :: _ :: _ :: _ :: _ :: _ :: _ :: _ :: _ :: _ :: _ :: _ :: _ :: _ :: _ :: [])) (H' := _) rfl rfl ?_
 refine vs (wr ?_)
 refine wN rfl rfl rfl (v34 rfl ?_)
 refine we rfl (vs (vs (wr ?_)))
 refine wN rfl rfl rfl (v34 rfl ?_)
 refine we rfl (vc_block ?_)
 refine vc_loopX (α := { i : Nat // (∀ j p, j < i → w.us[j]? = some p → p.1 ≠ k) ∧ i ≤ w.us.length }) (fun a => (rnone 4 ++ ([some .undef, some (.int .i64 (a.1 : Nat))] ++ (rundef 28)))) (fun a => H) (fun a => w.us.length - a.1) ⟨0, fun j p h => by omega, Nat.zero_le _⟩ (by repeat' first | exact trivial | refine ⟨.inr rfl, ?_⟩ | refine ⟨.inl rfl, ?_⟩ | fail) rfl ?_
 rintro ⟨i, hn, hi⟩ Y0 hY0
 refine vc_norm (env' := (_ :: _ :: _ :: _ :: _ :: (.int .i64 (i : Int)) :: _ :: _ :: _ :: _ :: _ :: _ :: _ :: _ :: _ :: _ :: _ :: _ :: _ :: _ :: _ :: _ :: _ :: _ :: _ :: _ :: _ :: _ :: _ :: _ :: _ :: _ :: _ :: _ :: [])) (H' := H) rfl rfl ?_
 refine vs (vs (wr ?_))
 refine wN rfl rfl rfl (v34 rfl ?_)
 refine wN (v := .ptr w.lw 0 0) rfl rfl rfl (v34 rfl ?_)
 iterate 2 refine wN rfl rfl rfl (v34 rfl ?_)
 refine wN (v := w.uv) rfl (g_loadW hW.wh hW.row.c1 ag144) rfl (v34 rfl ?_)
 refine wN (v := .int .i64 w.us.length) rfl (rus_len hW) rfl (v34 rfl ?_)
 refine wN rfl rfl rfl (v34 rfl ?_)
 refine we rfl ?_
 refine vc_cond rfl (fun hc12 => ?_) (fun hc12 => ?_)
 ·
  have hlt : i < w.us.length := by have := of_decide_eq_true hc12; omega
  obtain ⟨p, hp⟩ : ∃ p, w.us[i]? = some p := ⟨_, List.getElem?_eq_getElem hlt⟩
  obtain ⟨L, rows0, huv, hL1, hL2⟩ := rus_at hW hp
  obtain ⟨ho, lv, hu⟩ := hW.un p (List.mem_of_getElem? hp)
  refine vc_skip (n_then (vs (vc_block (vs (wr ?_)))))
  refine wN (v := .ptr w.lw 0 0) rfl rfl rfl (v34 rfl ?_)
  iterate 2 refine wN rfl rfl rfl (v34 rfl ?_)
  refine wN (v := .row false L 0 w.us.length) rfl ((by rw [← huv]; exact g_loadW hW.wh hW.row.c1 ag144)) rfl (v34 rfl ?_)
  refine wN rfl rfl rfl (v34 rfl ?_)
  refine wN (v := .ptr L i 0) rfl (g_index0 el144 hL1 (by omega) (by omega)) rfl (v34 rfl ?_)
  refine wN (v := .ptr p.2 0 0) rfl (g_load hL1 hL2 rfl) rfl (v34 rfl ?_)
  iterate 2 refine wN rfl rfl rfl (v34 rfl ?_)
  refine wN (v := .int .i64 p.1) rfl (g_load hu.obj rfl rfl) rfl (v34 rfl ?_)
  iterate 2 refine wN rfl rfl rfl (v34 rfl ?_)
  refine we rfl ?_
  refine vc_cond rfl (fun hc26 => ?_) (fun hc26 => ?_)
  ·
   refine vs (wr ?_)
   refine wN (v := .ptr w.lw 0 0) rfl rfl rfl (v34 rfl ?_)
   iterate 2 refine wN rfl rfl rfl (v34 rfl ?_)
   refine wN (v := .row false L 0 w.us.length) rfl ((by rw [← huv]; exact g_loadW hW.wh hW.row.c1 ag144)) rfl (v34 rfl ?_)
   refine wN rfl rfl rfl (v34 rfl ?_)
   refine wN (v := .ptr L i 0) rfl (g_index0 el144 hL1 (by omega) (by omega)) rfl (v34 rfl ?_)
   refine wN (v := .ptr p.2 0 0) rfl (g_load hL1 hL2 rfl) rfl (v34 rfl ?_)
   refine wN rfl rfl rfl (v34 rfl ?_)
   refine we rfl (vc_ret (r_block (r_then (r_then (r_block (r_then (r_fn rfl ?_)))))))
   exact ⟨(rfind_at hn hp (by simpa using hc26)).symm, rfl⟩
  refine vc_skip (n_block (n_then (wr ?_)))
  iterate 3 refine wN rfl rfl rfl (v34 rfl ?_)
  refine we rfl ?_
  refine hY0 ⟨i + 1, fun j q hj hq => by by_cases e : j = i; subst e; rw [hp] at hq; cases hq; simpa using hc26; exact hn j q (by omega) hq, hlt⟩ (by simp only; omega) _ _ ?_ rfl
  repeat' first | exact trivial | refine ⟨.inr rfl, ?_⟩ | refine ⟨.inl rfl, ?_⟩ | refine ⟨.inl ?_, ?_⟩ | fail
  all_goals first | exact (int_succ (by omega)).symm
 have hge : w.us.length ≤ i := by have := of_decide_eq_false hc12; omega
 refine vc_exit (x_then (x_then (x_same (n_then (vs (wr ?_))))))
 refine wN rfl rfl rfl (v34 rfl ?_)
 refine we rfl (vc_ret (r_fn rfl ?_))
 exact ⟨(rfind_no hn hge).symm, rfl⟩
end Go.Vi
namespace Go.Vi
open Go Go.Vi Go.Proofs
attribute [local irreducible] vops vopsD vc
theorem mapS {α : Type} {x : Option α} {v : α} {H : Hp} (h : x = some v) : x.map (·, H) = some (v, H) := by rw [h]; rfl
theorem vsliceR {P : Program} {H : Hp} {t T e : TypeId} {b : Bool} {l i m sz k : Nat} {rows : List (List AV)} (hu : P.underlying t = some (.slice e)) (hs : szOf P e = some sz) (h1 : H[l]? = some (.arr T sz rows)) (hk : k ≤ m) :
 vslice P H t (.row b l i m) (some (.int .i64 k)) none none = some (.row b l (i + k) (m - k)) := by
 have := g_slice (b := b) (i := i) (m := m) (n := (k : Int)) hu hs h1 (by omega) (by omega)
 simpa using this
theorem vsliceL {P : Program} {H : Hp} {t T e : TypeId} {b : Bool} {l i m sz : Nat} {rows : List (List AV)} {k : Nat} (hu : P.underlying t = some (.slice e)) (hs : szOf P e = some sz) (h1 : H[l]? = some (.arr T sz rows)) (hk : k ≤ m) :
 vslice P H t (.row b l i m) none (some (.int .i64 k)) (some (.int .i64 k)) = some (.row true l i k) := by
 have hb : vbounds m none (some (.int .i64 k)) (some (.int .i64 k)) = some (0, k, some k) := by
  simp only [vbounds, bnd]
  have h1 : (0 : Int) ≤ k := by omega
  simp [h1, hk]
 simp only [vslice, hu, hs, hb, h1]
 simp [cutT]
theorem appR_none {P : Program} {H : Hp} {T sz t t2 by_ : Nat} {x : AV} {d2 : TypeDesc} {zc : List AV} (he : elemAt P t = some (none, T, sz)) (hu : P.underlying t2 = some d2) (hd : isInt d2 = false) (hz : zcOf P T = some zc) (hb : byOf P T = some by_) (hl : zc.length = sz) (h0 : sz ≠ 0) (hb0 : by_ ≠ 0) (hs : x.isStr = false) {s : AV} (hx : srcRows H x = some []) (hsl : s.isSlice = true) : vappendR P H t t2 s x = some (s, H) := by
 unfold vappendR vappendF
 simp only [he, hu, hd, hz, hb, hx, Bool.false_eq_true, if_false]
 rw [if_pos ⟨hl, h0, hb0, rfl, by simp [hs], hsl⟩]
 rfl
theorem appR_list {P : Program} {H : Hp} {T sz t t2 by_ : Nat} {x : AV} {news old : List (List AV)} {d2 : TypeDesc} {zc : List AV} (he : elemAt P t = some (none, T, sz)) (hu : P.underlying t2 = some d2) (hd : isInt d2 = false) (hz : zcOf P T = some zc) (hb : byOf P T = some by_) (hl : zc.length = sz) (h0 : sz ≠ 0) (hb0 : by_ ≠ 0) (hs : x.isStr = false) (hx : srcRows H x = some news) (hlo : lenOk sz news = true) (hne : news ≠ []) (hold : lenOk sz old = true) (hsz : (old.length + news.length) * by_ ≤ 140737488355328) : vappendR P H t t2 (.list .tight old) x = some (.row false H.length 0 (old.length + news.length), H ++ [.arr T sz (old ++ news)]) := by
 have hn0 : ¬ news.length = 0 := by simpa using hne
 unfold vappendR vappendF
 simp only [he, hu, hd, hz, hb, hx, Bool.false_eq_true, if_false]
 rw [if_pos ⟨hl, h0, hb0, hlo, by simp [hs], rfl⟩, if_neg hn0]
 rw [if_pos ⟨hold, hsz⟩]
theorem appR_row {P : Program} {H : Hp} {T sz t t2 by_ : Nat} {x : AV} {news old : List (List AV)} {d2 : TypeDesc} {zc : List AV} (he : elemAt P t = some (none, T, sz)) (hu : P.underlying t2 = some d2) (hd : isInt d2 = false) (hz : zcOf P T = some zc) (hb : byOf P T = some by_) (hl : zc.length = sz) (h0 : sz ≠ 0) (hb0 : by_ ≠ 0) (hs : x.isStr = false) {l i n : Nat} (hr : rowsOf H (.row true l i n) = some old) (hx : srcRows H x = some news) (hlo : lenOk sz news = true) (hne : news ≠ []) (hold : lenOk sz old = true) (hsz : (old.length + news.length) * by_ ≤ 140737488355328) : vappendR P H t t2 (.row true l i n) x = some (.row false H.length 0 (old.length + news.length), H ++ [.arr T sz (old ++ news)]) := by
 have hn0 : ¬ news.length = 0 := by simpa using hne
 unfold vappendR vappendF
 simp only [he, hu, hd, hz, hb, hx, Bool.false_eq_true, if_false]
 rw [if_pos ⟨hl, h0, hb0, hlo, by simp [hs], rfl⟩, if_neg hn0]
 simp only [hr]
 rw [if_pos ⟨hold, hsz⟩]
theorem insK_len {lo : List Ro} {k : Nat} {x : Ro} (h : k ≤ lo.length) : (insK lo k x).length = lo.length + 1 := by simp [insK]; omega
theorem ro_row_len {lo : List Ro} : lenOk 3 (lo.map Ro.row) = true := List.all_eq_true.2 fun r hr => by obtain ⟨u, _, rfl⟩ := List.mem_map.1 hr; rfl
theorem ins_ops {b : Nat} {H0 : Hp} {v : AV} {lo : List Ro} {k : Nat} (x : Ro) (hO : OutIs b H0 140 3 v (lo.map Ro.row)) (hb : b ≤ H0.length) (hk : k ≤ lo.length) (hlen : lo.length ≤ 1000000) : ∃ v82 v87 v88 Ha v89 Hb,
 vslice Tryz.prog H0 91 v none (some (.int .i64 k)) (some (.int .i64 k)) = some v82 ∧ vslice Tryz.prog Ha 91 v none (some (.int .i64 k)) (some (.int .i64 k)) = some v82 ∧ vslice Tryz.prog H0 91 v (some (.int .i64 k)) none none = some v87 ∧
 vappendR Tryz.prog H0 91 91 (.list .tight [x.row]) v87 = some (v88, Ha) ∧ vappendR Tryz.prog Ha 91 91 v82 v88 = some (v89, Hb) ∧ OutIs b Hb 140 3 v89 ((insK lo k x).map Ro.row) ∧ b ≤ Hb.length ∧ ∀ l, l < b → Hb[l]? = H0[l]? := by
 have hxl : lenOk 3 [x.row] = true := rfl
 rcases hO with ⟨rfl, hl⟩ | ⟨L, rfl, hbL, hL, hne⟩
 · have hl0 : lo = [] := by simpa using hl
   subst hl0
   have hk0 : k = 0 := by simpa using hk
   subst hk0
   refine ⟨.nils, .nils, .list .tight [x.row], H0, .row false H0.length 0 1, H0 ++ [.arr 140 3 [x.row]], rfl, rfl, rfl, ?_, ?_, ?_, by simp; omega, fun l hl => List.getElem?_append_left (by omega)⟩
   · exact appR_none el91 Tryz.underlying91 rfl zc140 by140 rfl (by decide) (by decide) rfl rfl rfl
   · unfold vappendR vappendF
     have hd : isInt (TypeDesc.slice 140) = false := rfl
     simp only [el91, Tryz.underlying91, zc140, by140, srcRows, rowsOf, hd, Bool.false_eq_true, if_false]
     rw [if_pos ⟨rfl, by decide, by decide, hxl, by simp [AV.isStr], rfl⟩, if_neg (by simp), if_pos (by simp)]
     rfl
   exact .inr ⟨H0.length, rfl, hb, get_last, by simp [insK]⟩
 have hs1 : ∀ g : Hp, vslice Tryz.prog (H0 ++ g) 91 (.row false L 0 (lo.map Ro.row).length) none (some (.int .i64 k)) (some (.int .i64 k)) = some (.row true L 0 k) := fun g => vsliceL Tryz.underlying91 sz140 (get_app hL) (by simpa using hk)
 have hs0 := hs1 []
 rw [List.append_nil] at hs0
 have hs2 : vslice Tryz.prog H0 91 (.row false L 0 (lo.map Ro.row).length) (some (.int .i64 k)) none none = some (.row false L (0 + k) ((lo.map Ro.row).length - k)) := vsliceR Tryz.underlying91 sz140 hL (by simpa using hk)
 have hLl := lt_of hL
 have hr1 : rowsOf H0 (.row false L (0 + k) ((lo.map Ro.row).length - k)) = some ((lo.map Ro.row).drop k) := by
  simp only [rowsOf, hL]
  rw [if_pos (by simp; omega)]
  congr 1
  rw [Nat.zero_add]
  exact List.take_of_length_le (by simp)
 have hr2 : ∀ g : Hp, rowsOf (H0 ++ g) (.row true L 0 k) = some ((lo.map Ro.row).take k) := fun g => by
  simp only [rowsOf, get_app (g := g) hL]
  rw [if_pos (by simpa using hk)]
  rfl
 have hro : lenOk 3 ((lo.map Ro.row).drop k) = true := by rw [← List.map_drop]; exact ro_row_len
 have hro2 : lenOk 3 ((lo.map Ro.row).take k) = true := by rw [← List.map_take]; exact ro_row_len
 have hmk : ((lo.map Ro.row).take k).length = k := by simp; omega
 by_cases hkn : k = lo.length
 · have hd : (lo.map Ro.row).drop k = [] := List.drop_of_length_le (by simp; omega)
   refine ⟨_, _, .list .tight [x.row], H0, .row false H0.length 0 (k + 1), H0 ++ [.arr 140 3 ((lo.map Ro.row).take k ++ [x.row])], hs0, hs0, hs2, ?_, ?_, ?_, by simp; omega, fun l hl => List.getElem?_append_left (by omega)⟩
   · exact appR_none el91 Tryz.underlying91 rfl zc140 by140 rfl (by decide) (by decide) rfl (by rw [← hd]; exact hr1) rfl
   · have h2 := hr2 []
     rw [List.append_nil] at h2
     have := appR_row (x := .list .tight [x.row]) (news := [x.row]) el91 Tryz.underlying91 rfl zc140 by140 rfl (by decide) (by decide) rfl h2 rfl hxl (by simp) hro2 (by simp; omega)
     rw [this, hmk]
     rfl
   refine .inr ⟨H0.length, by rw [List.length_map, insK_len hk, hkn], hb, by rw [get_last, List.take_of_length_le (by simp; omega)]; simp [insK, hkn], by simp [insK]⟩
 have hd : (lo.map Ro.row).drop k ≠ [] := by simp; omega
 refine ⟨_, _, .row false H0.length 0 (1 + ((lo.map Ro.row).drop k).length), H0 ++ [.arr 140 3 ([x.row] ++ (lo.map Ro.row).drop k)], .row false (H0.length + 1) 0 (k + (1 + ((lo.map Ro.row).drop k).length)), H0 ++ [.arr 140 3 ([x.row] ++ (lo.map Ro.row).drop k)] ++ [.arr 140 3 ((lo.map Ro.row).take k ++ ([x.row] ++ (lo.map Ro.row).drop k))], hs0, hs1 _, hs2, ?_, ?_, ?_, by simp; omega, fun l hl => by rw [List.getElem?_append_left (by simp; omega), List.getElem?_append_left (by omega)]⟩
 · have := appR_list (old := [x.row]) (H := H0) (x := .row false L (0 + k) ((lo.map Ro.row).length - k)) el91 Tryz.underlying91 rfl zc140 by140 rfl (by decide) (by decide) rfl hr1 hro hd hxl (by simp; omega)
   exact this
 · have hx : rowsOf (H0 ++ [.arr 140 3 ([x.row] ++ (lo.map Ro.row).drop k)]) (.row false H0.length 0 (1 + ((lo.map Ro.row).drop k).length)) = some ([x.row] ++ (lo.map Ro.row).drop k) := by
    simp only [rowsOf, get_last]
    rw [if_pos (by simp; omega)]
    congr 1
    rw [List.drop_zero]
    exact List.take_of_length_le (by simp; omega)
   have := appR_row (x := .row false H0.length 0 (1 + ((lo.map Ro.row).drop k).length)) el91 Tryz.underlying91 rfl zc140 by140 rfl (by decide) (by decide) rfl (hr2 [.arr 140 3 ([x.row] ++ (lo.map Ro.row).drop k)]) hx (by have h2 := hro; simp only [lenOk, List.all_append, Bool.and_eq_true] at h2 ⊢; exact ⟨hxl, h2⟩) (by simp) hro2 (by simp; omega)
   rw [this, hmk, show ([x.row] ++ (lo.map Ro.row).drop k).length = 1 + ((lo.map Ro.row).drop k).length by simp; omega, show (H0 ++ [VO.arr 140 3 ([x.row] ++ (lo.map Ro.row).drop k)]).length = H0.length + 1 by simp]
 refine .inr ⟨H0.length + 1, by rw [List.length_map, insK_len hk]; simp; omega, by omega, ?_, by simp [insK]⟩
 rw [List.getElem?_append_right (by simp)]
 simp [insK]
set_option maxHeartbeats 8000000 in
theorem sOpensW (G : Glob) (H : Hp) (w : Rst) (s : St) (own : Nat → Own) (hW : RRep H w s own) (hS : StOk s) (hus : w.us.length ≤ 1000000) : XS Tryz.prog G 122 [.ptr w.lw 0 0] H (fun v H' => ∃ g, H' = H ++ g ∧ OutIs H.length H' 140 3 v (s.opens.map Ro.row)) := by
 refine xs_body (fun o => match o.op with | .call ⟨.value _, _, _⟩ => .shr | .call ⟨.builtin .append, _, _⟩ => .shr | _ => .iso) Tryz.func122 rfl ?_
 refine vc_norm (env' := (_ :: _ :: _ :: _ :: _ :: _ :: _ :: _ :: _ :: _ :: _ :: _ :: _ :: _ :: _ :: _ :: _ :: _ :: _ :: _ :: _ :: _ :: _ :: _ :: _ :: _ :: _ :: _ :: _ :: _ :: _ :: _ :: _ :: _ :: _ :: _ :: _ :: _ :: _ :: _ :: _ :: _ :: _ :: _ :: _ :: _ :: _ :: _ :: _ :: _ :: _ :: _ :: _ :: _ :: _ :: _ :: _ :: _ :: _ :: _ :: _ :: _ :: _ :: _ :: _ :: _ :: _ :: _ :: _ :: _ :: _ :: _ :: _ :: _ :: _ :: _ :: _ :: _ :: _ :: _ :: _ :: _ :: _ :: _ :: _ :: _ :: _ :: _ :: _ :: _ :: _ :: [])) (H' := _) rfl rfl ?_
 refine vs (wr ?_)
 refine wN rfl rfl rfl (v91 rfl ?_)
 refine we rfl (vs (wr ?_))
 refine wN rfl rfl rfl (v91 rfl ?_)
 refine we rfl (vs (vs (wr ?_)))
 refine wN rfl rfl rfl (v91 rfl ?_)
 refine we rfl (vc_block ?_)
 refine vc_loopX (α := { a : Nat × AV × Hp × List Ro // a.1 ≤ w.us.length ∧ H.length ≤ a.2.2.1.length ∧ (∀ l, l < H.length → a.2.2.1[l]? = H[l]?) ∧ OutIs H.length a.2.2.1 140 3 a.2.1 (a.2.2.2.map Ro.row) ∧ OpI s w.us a.1 a.2.2.2 }) (fun a => ([none, none, none, some (a.1.2.1), some (.int .i64 (a.1.1 : Nat))] ++ (rundef 85 ++ ([none])))) (fun a => a.1.2.2.1) (fun a => w.us.length - a.1.1) ⟨(0, .nils, H, []), Nat.zero_le _, Nat.le_refl _, fun l hl => rfl, .inl ⟨rfl, rfl⟩, List.Pairwise.nil, fun x => by simp⟩ (by repeat' first | exact trivial | refine ⟨.inr rfl, ?_⟩ | refine ⟨.inl rfl, ?_⟩ | fail) rfl ?_
 rintro ⟨⟨i, v, Hx, lo⟩, hil, hlx, hkp, hO, hI⟩ Y0 hY0
 refine vc_norm (env' := (_ :: _ :: _ :: v :: (.int .i64 (i : Int)) :: _ :: _ :: _ :: _ :: _ :: _ :: _ :: _ :: _ :: _ :: _ :: _ :: _ :: _ :: _ :: _ :: _ :: _ :: _ :: _ :: _ :: _ :: _ :: _ :: _ :: _ :: _ :: _ :: _ :: _ :: _ :: _ :: _ :: _ :: _ :: _ :: _ :: _ :: _ :: _ :: _ :: _ :: _ :: _ :: _ :: _ :: _ :: _ :: _ :: _ :: _ :: _ :: _ :: _ :: _ :: _ :: _ :: _ :: _ :: _ :: _ :: _ :: _ :: _ :: _ :: _ :: _ :: _ :: _ :: _ :: _ :: _ :: _ :: _ :: _ :: _ :: _ :: _ :: _ :: _ :: _ :: _ :: _ :: _ :: _ :: _ :: [])) (H' := Hx) rfl rfl ?_
 replace hil : i ≤ w.us.length := hil
 replace hlx : H.length ≤ Hx.length := hlx
 replace hkp : ∀ l, l < H.length → Hx[l]? = H[l]? := hkp
 replace hO : OutIs H.length Hx 140 3 v (lo.map Ro.row) := hO
 replace hI : OpI s w.us i lo := hI
 have hWx : RRep Hx w s own := hW.frame ⟨hlx, fun l hl _ => hkp l hl, fun _ _ => rfl⟩ (fun l hl => hW.fresh l (by omega))
 refine vs (vs (wr ?_))
 refine wN rfl rfl rfl (v91 rfl ?_)
 refine wN (v := .ptr w.lw 0 0) rfl rfl rfl (v91 rfl ?_)
 iterate 2 refine wN rfl rfl rfl (v91 rfl ?_)
 refine wN (v := w.uv) rfl (g_loadW hWx.wh hWx.row.c1 ag144) rfl (v91 rfl ?_)
 refine wN (v := .int .i64 w.us.length) rfl (rus_len hWx) rfl (v91 rfl ?_)
 refine wN rfl rfl rfl (v91 rfl ?_)
 refine we rfl ?_
 refine vc_cond rfl (fun hc15 => ?_) (fun hc15 => ?_)
 ·
  have hlt : i < w.us.length := by have := of_decide_eq_true hc15; omega
  obtain ⟨p, hp⟩ : ∃ p, w.us[i]? = some p := ⟨_, List.getElem?_eq_getElem hlt⟩
  obtain ⟨L, rows0, huv, hL1, hL2⟩ := rus_at hWx hp
  obtain ⟨ho, lv, hu⟩ := hWx.un p (List.mem_of_getElem? hp)
  have hseen : (s.unit p.1).seen = true := (hW.seen p.1).2 (List.mem_map.2 ⟨p, List.mem_of_getElem? hp, rfl⟩)
  have hstd := hS.std p.1
  have hleft := hS.left p.1
  have hrl := hS.len
  refine vc_skip (n_then (vs (vc_block (vs (wr ?_)))))
  refine wN (v := .ptr w.lw 0 0) rfl rfl rfl (v91 rfl ?_)
  iterate 2 refine wN rfl rfl rfl (v91 rfl ?_)
  refine wN (v := .row false L 0 w.us.length) rfl ((by rw [← huv]; exact g_loadW hWx.wh hWx.row.c1 ag144)) rfl (v91 rfl ?_)
  refine wN rfl rfl rfl (v91 rfl ?_)
  refine wN (v := .ptr L i 0) rfl (g_index0 el144 hL1 (by omega) (by omega)) rfl (v91 rfl ?_)
  refine wN (v := .ptr p.2 0 0) rfl (g_load hL1 hL2 rfl) rfl (v91 rfl ?_)
  refine wN rfl rfl rfl (v91 rfl ?_)
  refine we rfl (vs (vs (wr ?_)))
  iterate 3 refine wN rfl rfl rfl (v91 rfl ?_)
  refine wN (v := .int .i64 (s.unit p.1).stands) rfl (g_load hu.obj rfl rfl) rfl (v91 rfl ?_)
  iterate 2 refine wN rfl rfl rfl (v91 rfl ?_)
  apply w_and 6 30 (fun b => (rnone 30 ++ (rundef 6 ++ ([some (.bool b)] ++ (rnone 54))))) rfl
  ·
   intro hg30 hY30
   refine v91 rfl ?_
   iterate 3 refine wN (wanted_t 30 (by kernel_rfl) rfl) rfl rfl (v91 rfl ?_)
   refine wN (v := .int .i64 (s.unit p.1).stands) (wanted_t 30 (by kernel_rfl) rfl) (g_load hu.obj rfl rfl) rfl (v91 rfl ?_)
   refine wN (wanted_t 30 (by kernel_rfl) rfl) rfl rfl (v91 rfl ?_)
   refine wN rfl rfl rfl (v91 rfl ?_)
   refine hY30 _ ?_
   repeat' first | exact trivial | refine ⟨.inr rfl, ?_⟩ | refine ⟨.inl rfl, ?_⟩ | fail
  ·
   intro hg30 hY30
   refine v91 rfl ?_
   iterate 5 refine wS (wanted_f 30 (by kernel_rfl) rfl) (v91 rfl ?_)
   refine wN rfl rfl rfl (v91 rfl ?_)
   refine hY30 _ ?_
   repeat' first | exact trivial | refine ⟨.inr rfl, ?_⟩ | refine ⟨.inl rfl, ?_⟩ | fail
  refine v91 rfl ?_
  refine we rfl ?_
  refine vc_cond rfl (fun hc36 => ?_) (fun hc36 => ?_)
  ·
   have hoo : isOpenU (s.unit p.1) = false := by simp only [isOpenU, hseen, Bool.true_and, decide_eq_false_iff_not]; simp at hc36; omega
   refine vc_exit (x_then (x_same (n_then (wr ?_))))
   iterate 3 refine wN rfl rfl rfl (v91 rfl ?_)
   refine we rfl ?_
   refine hY0 ⟨(i + 1, v, Hx, lo), hlt, hlx, hkp, hO, hI.skip hp hoo⟩ (by simp only; omega) _ _ ?_ rfl
   repeat' first | exact trivial | refine ⟨.inr rfl, ?_⟩ | refine ⟨.inl rfl, ?_⟩ | refine ⟨.inl ?_, ?_⟩ | fail
   all_goals first | exact (int_succ (by omega)).symm
  have hoo : isOpenU (s.unit p.1) = true := by simp only [isOpenU, hseen, Bool.true_and, decide_eq_true_eq]; simp at hc36; omega
  refine vc_skip (n_then (vs ?_))
  refine w_regionW [(Hx ++ [VO.arr 140 3 [[.int .i64 0, .int .i64 0, .str ⟨#[]⟩]]]), ((Hx ++ [VO.arr 140 3 [[.int .i64 0, .int .i64 0, .str ⟨#[]⟩]]]).set Hx.length (VO.arr 140 3 [[.int .i64 p.1, .int .i64 0, .str (s.unit p.1).ready]]))] (by kernel_rfl) ?_
  iterate 3 refine e_op (env' := _) rfl (by decide) (show _ = (0, 1) by kernel_rfl) (by decide) (fun _ _ h => h) (fun q h1 h2 => rfl) rfl (w91 rfl ?_)
  refine e_op (v := .int .i64 p.1) (env' := _) rfl (by decide) (show _ = (0, 1) by kernel_rfl) (by decide) (fun _ _ h => h) (fun q h1 h2 => (match q, h1, h2 with | 0, _, _ => g_load hu.obj rfl rfl | 1, _, _ => g_load (get_app hu.obj) rfl rfl | q + 2, _, h2 => absurd h2 (by omega))) rfl (w91 rfl ?_)
  iterate 3 refine e_op (env' := _) rfl (by decide) (show _ = (0, 1) by kernel_rfl) (by decide) (fun _ _ h => h) (fun q h1 h2 => rfl) rfl (w91 rfl ?_)
  refine e_op (v := .str (s.unit p.1).ready) (env' := _) rfl (by decide) (show _ = (0, 1) by kernel_rfl) (by decide) (fun _ _ h => h) (fun q h1 h2 => (match q, h1, h2 with | 0, _, _ => g_load hu.obj rfl rfl | 1, _, _ => g_load (get_app hu.obj) rfl rfl | q + 2, _, h2 => absurd h2 (by omega))) rfl (w91 rfl ?_)
  refine e_op (v := .agg [_, _, _]) (env' := _) rfl (by decide) (show _ = (0, 1) by kernel_rfl) (by decide) (fun _ _ h => h) (fun q h1 h2 => rfl) rfl (w91 rfl ?_)
  refine e_eff (H0 := _) (H1 := (Hx ++ [VO.arr 140 3 [[.int .i64 0, .int .i64 0, .str ⟨#[]⟩]]])) (v := .ptr Hx.length 0 0) (env' := _) rfl rfl (show _ = (0, 1) by kernel_rfl) rfl rfl (fun _ _ h => h) (g_alloc zr140 rfl rfl) rfl (w91 rfl ?_)
  refine e_eff0 (H0 := (Hx ++ [VO.arr 140 3 [[.int .i64 0, .int .i64 0, .str ⟨#[]⟩]]])) (H1 := ((Hx ++ [VO.arr 140 3 [[.int .i64 0, .int .i64 0, .str ⟨#[]⟩]]]).set Hx.length (VO.arr 140 3 [[.int .i64 p.1, .int .i64 0, .str (s.unit p.1).ready]]))) rfl rfl (show _ = (1, 2) by kernel_rfl) rfl rfl (fun _ _ h => h) (g_store (i := 0) (k := 0) (x := .agg [.int .i64 p.1, .int .i64 0, .str (s.unit p.1).ready]) (cs := [.int .i64 p.1, .int .i64 0, .str (s.unit p.1).ready]) (rows := [[.int .i64 0, .int .i64 0, .str ⟨#[]⟩]]) (get_last (H := Hx)) rfl rfl sz140 ⟨rfl, by simp, by decide⟩) ?_
  refine e_end (H' := ((Hx ++ [VO.arr 140 3 [[.int .i64 0, .int .i64 0, .str ⟨#[]⟩]]]).set Hx.length (VO.arr 140 3 [[.int .i64 p.1, .int .i64 0, .str (s.unit p.1).ready]]))) rfl ?_
  refine vc_meet (α := Unit) (fun _ => (rnone 7 ++ ([some .undef] ++ (rnone 38 ++ (rundef 16 ++ (rnone 29)))))) (fun _ => (Hx ++ [VO.arr 140 3 [(roOf p.1 (s.unit p.1)).row]])) ?_ ?_
  ·
   intro Mo8 hMo8
   refine vs ?_
   rw [set_last]
   have hu2 : UnR (Hx ++ [VO.arr 140 3 [[.int .i64 p.1, .int .i64 0, .str (s.unit p.1).ready]]]) own p.1 p.2 lv (s.unit p.1) := ((⟨by simp, fun l hl _ => List.getElem?_append_left hl, fun _ _ => rfl⟩ : Same (fun _ => False) Hx own (Hx ++ [VO.arr 140 3 [[.int .i64 p.1, .int .i64 0, .str (s.unit p.1).ready]]]) own).unR ho (by simp) (by simp) hu).2
   refine wr ?_
   iterate 3 refine wN rfl rfl rfl (v91 rfl ?_)
   refine wN (v := lv) rfl (g_load (get_app hu.obj) rfl rfl) rfl (v91 rfl ?_)
   refine wN (v := .int .i64 (s.unit p.1).left.length) rfl (rleft_len hu2) rfl (v91 rfl ?_)
   refine wN rfl rfl rfl (v91 rfl ?_)
   refine we rfl (vs (wr ?_))
   iterate 2 refine wN rfl rfl rfl (v91 rfl ?_)
   refine we rfl ?_
   refine vc_cond rfl (fun hc52 => ?_) (fun hc52 => ?_)
   ·
    have hpos : 0 < (s.unit p.1).left.length := by have := of_decide_eq_true hc52; omega
    obtain ⟨q, hq⟩ : ∃ q, (s.unit p.1).left[(s.unit p.1).left.length - 1]? = some q := ⟨_, List.getElem?_eq_getElem (by omega)⟩
    have hlast : (s.unit p.1).left.getLast? = some q := by rw [List.getLast?_eq_getElem?]; exact hq
    obtain ⟨L2, rows2, rfl, hM1, hM2, _, _⟩ := rleft_at hu2 hq
    rw [show (s.unit p.1).left.length - 1 = (((s.unit p.1).left.length : Int) - 1).toNat by omega] at hM2
    refine wr ?_
    iterate 3 refine wN rfl rfl rfl (v91 rfl ?_)
    refine wN (v := .row false L2 0 (s.unit p.1).left.length) rfl (g_load hu2.obj rfl rfl) rfl (v91 rfl ?_)
    refine wN rfl rfl rfl (v91 rfl ?_)
    refine wN (v := .int .i64 (((s.unit p.1).left.length : Int) - 1)) rfl (int_eq (i64_small (by omega) (by omega))) rfl (v91 rfl ?_)
    refine wN (v := .ptr L2 (((s.unit p.1).left.length : Int) - 1).toNat 0) rfl (g_index0 el35 hM1 (by omega) (by omega)) rfl (v91 rfl ?_)
    refine wN (v := .int .i64 q) rfl (g_load hM1 hM2 rfl) rfl (v91 rfl ?_)
    refine wN (v := .ptr Hx.length 0 1) rfl rfl rfl (v91 rfl ?_)
    refine w_op0N (H2 := Hx ++ [VO.arr 140 3 [[.int .i64 p.1, .int .i64 q, .str (s.unit p.1).ready]]]) rfl (g_store get_last rfl rfl sz3 ⟨rfl, by simp, by decide⟩) (set_last) (fun _ h => h) ?_
    refine we rfl ?_
    refine hMo8 () _ _ (by simp; omega) (by simp [roOf, hlast, Ro.row]) ?_
    repeat' first | exact trivial | refine ⟨.inr rfl, ?_⟩ | refine ⟨.inl rfl, ?_⟩ | refine ⟨.inl ?_, ?_⟩ | fail
   have hlast : (s.unit p.1).left.getLast? = none := by have := of_decide_eq_false hc52; rw [List.getLast?_eq_none_iff]; exact List.length_eq_zero_iff.1 (by omega)
   refine vc_skip (n_then ?_)
   refine hMo8 () _ _ (by simp; omega) (by simp [roOf, hlast, Ro.row]) ?_
   repeat' first | exact trivial | refine ⟨.inr rfl, ?_⟩ | refine ⟨.inl rfl, ?_⟩ | refine ⟨.inl ?_, ?_⟩ | fail
  rintro _ hnbo8
  refine vc_norm (env' := (_ :: _ :: _ :: _ :: _ :: _ :: _ :: _ :: _ :: _ :: _ :: _ :: _ :: _ :: _ :: _ :: _ :: _ :: _ :: _ :: _ :: _ :: _ :: _ :: _ :: _ :: _ :: _ :: _ :: _ :: _ :: _ :: _ :: _ :: _ :: _ :: _ :: _ :: _ :: _ :: _ :: _ :: _ :: _ :: _ :: _ :: _ :: _ :: _ :: _ :: _ :: _ :: _ :: _ :: _ :: _ :: _ :: _ :: _ :: _ :: _ :: _ :: _ :: _ :: _ :: _ :: _ :: _ :: _ :: _ :: _ :: _ :: _ :: _ :: _ :: _ :: _ :: _ :: _ :: _ :: _ :: _ :: _ :: _ :: _ :: _ :: _ :: _ :: _ :: _ :: _ :: [])) (H' := (Hx ++ [VO.arr 140 3 [(roOf p.1 (s.unit p.1)).row]])) rfl rfl ?_
  refine vs ?_
  have hvl : (vlen Tryz.prog (Hx ++ [VO.arr 140 3 [(roOf p.1 (s.unit p.1)).row]]) 91 v).map (·, (Hx ++ [VO.arr 140 3 [(roOf p.1 (s.unit p.1)).row]])) = some (.int .i64 lo.length, (Hx ++ [VO.arr 140 3 [(roOf p.1 (s.unit p.1)).row]])) := by
   have := GrowIs.len (hO.app [VO.arr 140 3 [(roOf p.1 (s.unit p.1)).row]]).grow Tryz.underlying91
   rwa [List.length_map] at this
  have hll := hI.len (by omega)
  refine wr ?_
  refine wN rfl rfl rfl (v91 rfl ?_)
  refine wN (v := .int .i64 lo.length) rfl (hvl) rfl (v91 rfl ?_)
  refine wN rfl rfl rfl (v91 rfl ?_)
  refine we rfl (vs (vc_block ?_))
  refine vc_loopX (α := { k : Nat // k ≤ lo.length ∧ ∀ j y, k ≤ j → lo[j]? = some y → y.unit > p.1 }) (fun a => (rnone 8 ++ ([some (.int .i64 (a.1 : Nat))] ++ (rnone 55 ++ (rundef 15 ++ (rnone 12)))))) (fun a => (Hx ++ [VO.arr 140 3 [(roOf p.1 (s.unit p.1)).row]])) (fun a => a.1) ⟨lo.length, Nat.le_refl _, fun j y hj hy => by have := (List.getElem?_eq_some_iff.1 hy).1; omega⟩ (by repeat' first | exact trivial | refine ⟨.inr rfl, ?_⟩ | refine ⟨.inl rfl, ?_⟩ | fail) rfl ?_
  rintro ⟨k, hkl, hgt⟩ Y1 hY1
  refine vc_norm (env' := (_ :: _ :: _ :: _ :: _ :: _ :: _ :: _ :: (.int .i64 (k : Int)) :: _ :: _ :: _ :: _ :: _ :: _ :: _ :: _ :: _ :: _ :: _ :: _ :: _ :: _ :: _ :: _ :: _ :: _ :: _ :: _ :: _ :: _ :: _ :: _ :: _ :: _ :: _ :: _ :: _ :: _ :: _ :: _ :: _ :: _ :: _ :: _ :: _ :: _ :: _ :: _ :: _ :: _ :: _ :: _ :: _ :: _ :: _ :: _ :: _ :: _ :: _ :: _ :: _ :: _ :: _ :: _ :: _ :: _ :: _ :: _ :: _ :: _ :: _ :: _ :: _ :: _ :: _ :: _ :: _ :: _ :: _ :: _ :: _ :: _ :: _ :: _ :: _ :: _ :: _ :: _ :: _ :: _ :: [])) (H' := (Hx ++ [VO.arr 140 3 [(roOf p.1 (s.unit p.1)).row]])) rfl rfl ?_
  refine vs (vs (w_regionD (by kernel_rfl) ?_))
  iterate 3 refine dN rfl rfl rfl (d91 rfl ?_)
  refine d_split 66 rfl (fun hg66 => ?_) (fun hg66 => ?_)
  ·
   have hk0 : 0 < k := by have := of_decide_eq_true hg66; omega
   obtain ⟨y, hy1⟩ : ∃ y, lo[k - 1]? = some y := ⟨_, List.getElem?_eq_getElem (by omega)⟩
   obtain ⟨Lo, rfl, hLo, hL, hne⟩ := hO.resolve_left (fun h => by have := h.2; simp at this; subst this; simp at hkl; omega)
   have hy2 : (lo.map Ro.row)[((k : Int) - 1).toNat]? = some y.row := by rw [show ((k : Int) - 1).toNat = k - 1 by omega, List.getElem?_map, hy1]; rfl
   refine d91 rfl ?_
   iterate 2 refine dN (wanted_t 66 (by kernel_rfl) rfl) rfl rfl (d91 rfl ?_)
   refine dN (v := .int .i64 ((k : Int) - 1)) (wanted_t 66 (by kernel_rfl) rfl) (int_eq (i64_small (by omega) (by omega))) rfl (d91 rfl ?_)
   refine dN (v := .ptr Lo ((k : Int) - 1).toNat 0) (wanted_t 66 (by kernel_rfl) rfl) (g_index0 el91 (get_app hL) (by simp; omega) (by simp; omega)) rfl (d91 rfl ?_)
   refine dN (wanted_t 66 (by kernel_rfl) rfl) rfl rfl (d91 rfl ?_)
   refine dN (v := .int .i64 y.unit) (wanted_t 66 (by kernel_rfl) rfl) (g_load (get_app hL) hy2 rfl) rfl (d91 rfl ?_)
   refine dN (v := .ptr Hx.length 0 0) (wanted_t 66 (by kernel_rfl) rfl) rfl rfl (d91 rfl ?_)
   refine dN (v := .int .i64 p.1) (wanted_t 66 (by kernel_rfl) rfl) (g_load get_last rfl rfl) rfl (d91 rfl ?_)
   refine dN (wanted_t 66 (by kernel_rfl) rfl) rfl rfl (d91 rfl ?_)
   refine dN rfl rfl rfl (d91 rfl ?_)
   refine d_end rfl ?_
   refine vc_cond rfl (fun hc76 => ?_) (fun hc76 => ?_)
   ·
    refine vc_skip (n_then (vc_block (wr ?_)))
    refine wN rfl rfl rfl (v91 rfl ?_)
    refine wN (v := .int .i64 ((k - 1 : Nat) : Int)) rfl (int_eq (wrap_pred (by omega) (by omega))) rfl (v91 rfl ?_)
    refine wN rfl rfl rfl (v91 rfl ?_)
    refine w_endB rfl (n_then ?_)
    refine hY1 ⟨k - 1, by omega, fun j z hj hz => by by_cases e : j = k - 1; subst e; rw [hy1] at hz; cases hz; exact of_decide_eq_true hc76; exact hgt j z (by omega) hz⟩ (by simp only; omega) _ _ ?_ rfl
    repeat' first | exact trivial | refine ⟨.inr rfl, ?_⟩ | refine ⟨.inl rfl, ?_⟩ | refine ⟨.inl ?_, ?_⟩ | fail
   have hle : k = 0 ∨ ∃ y, lo[k - 1]? = some y ∧ ¬ y.unit > p.1 := .inr ⟨y, hy1, of_decide_eq_false hc76⟩
   refine vc_exit (x_then (x_then (x_same (n_then ?_))))
   obtain ⟨v82, v87, v88, Ha, v89, Hb, i1, i2, i3, i4, i5, i6, i7, i8⟩ := ins_ops (k := k) (roOf p.1 (s.unit p.1)) (hO.app [VO.arr 140 3 [(roOf p.1 (s.unit p.1)).row]]) (by simp; omega) hkl (by omega)
   refine w_regionW [Ha, Hb] (by kernel_rfl) ?_
   iterate 3 refine e_op (env' := _) rfl (by decide) (show _ = (0, 1) by kernel_rfl) (by decide) (fun _ _ h => h) (fun q h1 h2 => rfl) rfl (w91 rfl ?_)
   refine e_op (v := v82) (env' := _) rfl (by decide) (show _ = (0, 1) by kernel_rfl) (by decide) (fun _ _ h => h) (fun q h1 h2 => (match q, h1, h2 with | 0, _, _ => mapS i1 | 1, _, _ => mapS i2 | q + 2, _, h2 => absurd h2 (by omega))) rfl (w91 rfl ?_)
   refine e_op (v := .agg (roOf p.1 (s.unit p.1)).row) (env' := _) rfl (by decide) (show _ = (0, 0) by kernel_rfl) (by decide) (fun _ _ h => h) (fun q h1 h2 => (match q, h1, h2 with | 0, _, _ => g_load get_last rfl rfl | q + 1, _, h2 => absurd h2 (by omega))) rfl (w91 rfl ?_)
   iterate 3 refine e_op (env' := _) rfl (by decide) (show _ = (0, 0) by kernel_rfl) (by decide) (fun _ _ h => h) (fun q h1 h2 => rfl) rfl (w91 rfl ?_)
   refine e_op (v := v87) (env' := _) rfl (by decide) (show _ = (0, 0) by kernel_rfl) (by decide) (fun _ _ h => h) (fun q h1 h2 => (match q, h1, h2 with | 0, _, _ => mapS i3 | q + 1, _, h2 => absurd h2 (by omega))) rfl (w91 rfl ?_)
   refine e_eff (H0 := _) (H1 := Ha) (v := v88) (env' := _) rfl rfl (show _ = (0, 1) by kernel_rfl) rfl rfl (fun _ _ h => h) (i4) rfl (w91 rfl ?_)
   refine e_eff (H0 := Ha) (H1 := Hb) (v := v89) (env' := _) rfl rfl (show _ = (1, 2) by kernel_rfl) rfl rfl (fun _ _ h => h) (i5) rfl (w91 rfl ?_)
   refine e_op (env' := _) rfl (by decide) (show _ = (2, 2) by kernel_rfl) (by decide) (fun _ _ h => h) (fun q h1 h2 => rfl) rfl (w91 rfl ?_)
   refine e_endB (H' := Hb) rfl ?_
   refine n_then (wr ?_)
   iterate 3 refine wN rfl rfl rfl (v91 rfl ?_)
   refine we rfl ?_
   refine hY0 ⟨(i + 1, v89, Hb, _), hlt, i7, fun l hl => by show Hb[l]? = _; rw [i8 l hl, List.getElem?_append_left (by omega)]; exact hkp l hl, i6, hI.ins hp hW.nd hoo hkl hgt hle⟩ (by simp only; omega) _ _ ?_ rfl
   repeat' first | exact trivial | refine ⟨.inr rfl, ?_⟩ | refine ⟨.inl rfl, ?_⟩ | refine ⟨.inl ?_, ?_⟩ | fail
   all_goals first | exact (int_succ (by omega)).symm
  have hle : k = 0 ∨ ∃ y, lo[k - 1]? = some y ∧ ¬ y.unit > p.1 := .inl (by have := of_decide_eq_false hg66; omega)
  refine d91 rfl ?_
  iterate 9 refine dS (wanted_f 66 (by kernel_rfl) rfl) (d91 rfl ?_)
  refine dN rfl rfl rfl (d91 rfl ?_)
  refine d_end rfl ?_
  refine vc_false rfl ?_
  refine vc_exit (x_then (x_then (x_same (n_then ?_))))
  obtain ⟨v82, v87, v88, Ha, v89, Hb, i1, i2, i3, i4, i5, i6, i7, i8⟩ := ins_ops (k := k) (roOf p.1 (s.unit p.1)) (hO.app [VO.arr 140 3 [(roOf p.1 (s.unit p.1)).row]]) (by simp; omega) hkl (by omega)
  refine w_regionW [Ha, Hb] (by kernel_rfl) ?_
  iterate 3 refine e_op (env' := _) rfl (by decide) (show _ = (0, 1) by kernel_rfl) (by decide) (fun _ _ h => h) (fun q h1 h2 => rfl) rfl (w91 rfl ?_)
  refine e_op (v := v82) (env' := _) rfl (by decide) (show _ = (0, 1) by kernel_rfl) (by decide) (fun _ _ h => h) (fun q h1 h2 => (match q, h1, h2 with | 0, _, _ => mapS i1 | 1, _, _ => mapS i2 | q + 2, _, h2 => absurd h2 (by omega))) rfl (w91 rfl ?_)
  refine e_op (v := .agg (roOf p.1 (s.unit p.1)).row) (env' := _) rfl (by decide) (show _ = (0, 0) by kernel_rfl) (by decide) (fun _ _ h => h) (fun q h1 h2 => (match q, h1, h2 with | 0, _, _ => g_load get_last rfl rfl | q + 1, _, h2 => absurd h2 (by omega))) rfl (w91 rfl ?_)
  iterate 3 refine e_op (env' := _) rfl (by decide) (show _ = (0, 0) by kernel_rfl) (by decide) (fun _ _ h => h) (fun q h1 h2 => rfl) rfl (w91 rfl ?_)
  refine e_op (v := v87) (env' := _) rfl (by decide) (show _ = (0, 0) by kernel_rfl) (by decide) (fun _ _ h => h) (fun q h1 h2 => (match q, h1, h2 with | 0, _, _ => mapS i3 | q + 1, _, h2 => absurd h2 (by omega))) rfl (w91 rfl ?_)
  refine e_eff (H0 := _) (H1 := Ha) (v := v88) (env' := _) rfl rfl (show _ = (0, 1) by kernel_rfl) rfl rfl (fun _ _ h => h) (i4) rfl (w91 rfl ?_)
  refine e_eff (H0 := Ha) (H1 := Hb) (v := v89) (env' := _) rfl rfl (show _ = (1, 2) by kernel_rfl) rfl rfl (fun _ _ h => h) (i5) rfl (w91 rfl ?_)
  refine e_op (env' := _) rfl (by decide) (show _ = (2, 2) by kernel_rfl) (by decide) (fun _ _ h => h) (fun q h1 h2 => rfl) rfl (w91 rfl ?_)
  refine e_endB (H' := Hb) rfl ?_
  refine n_then (wr ?_)
  iterate 3 refine wN rfl rfl rfl (v91 rfl ?_)
  refine we rfl ?_
  refine hY0 ⟨(i + 1, v89, Hb, _), hlt, i7, fun l hl => by show Hb[l]? = _; rw [i8 l hl, List.getElem?_append_left (by omega)]; exact hkp l hl, i6, hI.ins hp hW.nd hoo hkl hgt hle⟩ (by simp only; omega) _ _ ?_ rfl
  repeat' first | exact trivial | refine ⟨.inr rfl, ?_⟩ | refine ⟨.inl rfl, ?_⟩ | refine ⟨.inl ?_, ?_⟩ | fail
  all_goals first | exact (int_succ (by omega)).symm
 have hge : w.us.length ≤ i := by have := of_decide_eq_false hc15; omega
 refine vc_exit (x_then (x_then (x_same (n_then (vs (wr ?_))))))
 iterate 2 refine wN rfl rfl rfl (v91 rfl ?_)
 refine we rfl (vc_ret (r_fn rfl ?_))
 refine ⟨_, split_at hkp hlx, ?_⟩
 rw [hI.opens hW hge]
 exact hO
theorem sOpens (G : Glob) (H : Hp) (w : Rst) (s : St) (own : Nat → Own) (hW : RRep H w s own) (hS : StOk s) (hus : w.us.length ≤ 1000000) : XS Tryz.prog G 122 [.ptr w.lw 0 0] H (fun v H' => v = plist (s.opens.map Ro.row) ∧ H' = H) :=
 XS.stripF ((sOpensW G H w s own hW hS hus).mono fun v H' ⟨g, h1, h2⟩ => by
  obtain ⟨H3, f1, f2, f3⟩ := h2.frz (List.all_eq_true.2 fun r hr => by obtain ⟨u, _, rfl⟩ := List.mem_map.1 hr; rfl)
  refine ⟨g, H3, _, h1, f1, ⟨_, split_at (fun l hl => by rw [f3 l hl, h1, List.getElem?_append_left hl]) (by rw [f2, h1]; simp)⟩, ?_, rfl, rfl⟩
  unfold plist
  split <;> rfl)
end Go.Vi
namespace Go.Vi
open Go Go.Vi Go.Proofs
attribute [local irreducible] vops vopsD vc
theorem Rc.Ok.lend {r : Rc} (h : r.Ok) {H : Hp} : Vi.lend H (.agg r.row) = some (.agg r.row) := lend_agg (mapL_cons rfl (mapL_cons rfl (mapL_cons rfl (mapL_cons rfl (mapL_cons h.bef.1.lend0 (mapL_cons h.aft.1.lend0 (mapL_cons rfl (mapL_cons rfl (mapL_cons rfl (mapL_cons h.opn.lend0 rfl))))))))))
theorem el145 : elemAt Tryz.prog 145 = some (some 120, 109, 128) := by kernel_rfl
theorem g_indexA {P : Program} {H : Hp} {t e : TypeId} {len sz l i k : Nat} {kk : IntKind} {n : Int} (he : elemAt P t = some (some len, e, sz)) (h0 : 0 ≤ n) (hn : n < len) : (vindexAddr P H t (.ptr l i k) (.int kk n)).map (·, H) = some (.ptr l i (k + n.toNat * sz), H) := by
 simp only [vindexAddr, he]
 rw [if_pos ⟨h0, hn⟩]
 rfl
theorem g_sliceA {P : Program} {H : Hp} {t e : TypeId} {len sz l i k : Nat} {a b : Int} (hu : P.underlying t = some (.array len e)) (hs : szOf P e = some sz) (h0 : 0 ≤ a) (ha : a ≤ b) (hb : b ≤ len) : (vslice P H t (.ptr l i k) (some (.int .i64 a)) (some (.int .i64 b)) none).map (·, H) = some (.sub l i (k + a.toNat * sz) sz (b.toNat - a.toNat), H) := by
 have hv : vbounds len (some (.int .i64 a)) (some (.int .i64 b)) none = some (a.toNat, b.toNat, none) := by
  simp only [vbounds, bnd]
  have h2 : a.toNat ≤ b.toNat := by omega
  have h3 : b.toNat ≤ len := by omega
  have h4 : 0 ≤ b := by omega
  simp [h0, h2, h3, h4]
 simp only [vslice, hu, hs, hv]
 rfl
theorem sub_rows {H : Hp} {w : Rst} {s : St} {own : Nat → Own} (hW : RRep H w s own) {p : Int} {pos n : Nat} (h0 : 0 ≤ p) (hp : p < 120) (hin : pos + n ≤ 128) : rowsOf H (.sub w.lw 0 (2 + p.toNat * 128 + pos) 1 n) = some (((s.page p).drop pos).take n) := by
 have hl := hW.row.len
 simp only [rowsOf, hW.wh, List.getElem?_cons_zero]
 rw [if_pos (by omega)]
 have := hW.row.bytes hW.pg (p := p.toNat) (pos := pos) (n := n) (by omega) hin
 rw [this, show ((p.toNat : Nat) : Int) = p by omega]
open Classical in
theorem meets_rus {H : Hp} {w : Rst} {s : St} {own : Nat → Own} (hW : RRep H w s own) (hS : StOk s) {r : Rc} (h : ∀ p ∈ w.us, meetsAt s r p.1 = false) : s.meets r = false := by
 unfold St.meets
 rw [decide_eq_false_iff_not]
 rintro ⟨n, hn⟩
 by_cases hm : n ∈ w.us.map (·.1)
 · obtain ⟨p, hp, rfl⟩ := List.mem_map.1 hm
   rw [h p hp] at hn; cases hn
 have hs : (s.unit n).seen = false := by
  cases hb : (s.unit n).seen with
  | false => rfl
  | true => exact absurd ((hW.seen n).1 hb) hm
 simp [meetsAt, hS.unseen n hs, Un.new] at hn
open Classical in
theorem meets_yes {s : St} {r : Rc} {n : Int} (h : meetsAt s r n = true) : s.meets r = true := by
 unfold St.meets
 rw [decide_eq_true_eq]
 exact ⟨n, h⟩
set_option maxHeartbeats 8000000 in
theorem sIsChangeW (G : Glob) (H : Hp) (w : Rst) (s : St) (own : Nat → Own) (hW : RRep H w s own) (hS : StOk s) (hus : w.us.length ≤ 1000000) (r : Rc) (hr : r.Ok) (hi : r.In) (hbn : r.nb = r.na) : XS Tryz.prog G 124 [.ptr w.lw 0 0, .agg r.row] H (fun v H' => ∃ g, H' = H ++ g ∧ v.isVal = true ∧ v = .bool (s.changeOk r)) := by
 have hLb := hr.bef.1
 have hLa := hr.aft.1
 have hLo := hr.opn
 have hbb := hr.bef.2.1
 have hab := hr.aft.2.1
 have hxt := hr.txt
 have hlen := hr.len
 have hol : (lrows r.opn).length = r.opens.length := by rw [hr.rows]; simp
 have hp0 := hi.p0
 have hp1 := hi.p1
 have hg0 := hi.g0
 have hg1 := hi.g1
 have hna : r.na = (lrows r.aft).length := rfl
 have hnb : r.nb = (lrows r.bef).length := rfl
 have hb0 : (H ++ [VO.arr 93 10 [r.row]])[H.length]? = some (VO.arr 93 10 [r.row]) := get_last
 have hWx : RRep (H ++ [VO.arr 93 10 [r.row]]) w s own := hW.app _
 have hwas := sub_rows hWx (pos := r.pos.toNat) (n := r.nb) hg0 hg1 (by omega)
 have hwb : ∀ q ∈ ((s.page r.page).drop r.pos.toNat).take r.nb, ∃ v, q = [AV.int .u8 v] := fun q hq => hW.pg.byt r.page q (List.mem_of_mem_drop (List.mem_of_mem_take hq))
 refine xs_body (fun o => match o.op with | .call ⟨.value (.func f), _, _⟩ => if f = 152 then .iso else .shr | .call ⟨.builtin .append, _, _⟩ => .shr | _ => .iso) Tryz.func124 rfl ?_
 refine vc_norm (env' := (_ :: _ :: _ :: _ :: _ :: _ :: _ :: _ :: _ :: _ :: _ :: _ :: _ :: _ :: _ :: _ :: _ :: _ :: _ :: _ :: _ :: _ :: _ :: _ :: _ :: _ :: _ :: _ :: _ :: _ :: _ :: _ :: _ :: _ :: _ :: _ :: _ :: _ :: _ :: _ :: _ :: _ :: _ :: _ :: _ :: _ :: _ :: _ :: _ :: _ :: _ :: _ :: _ :: _ :: _ :: _ :: _ :: _ :: _ :: _ :: _ :: _ :: _ :: _ :: _ :: _ :: _ :: _ :: _ :: _ :: _ :: _ :: _ :: _ :: _ :: _ :: _ :: _ :: _ :: _ :: _ :: _ :: _ :: _ :: _ :: _ :: _ :: _ :: _ :: _ :: [])) (H' := _) rfl rfl ?_
 refine vs (wr ?_)
 refine w_opH (v := .ptr H.length 0 0) (env' := _) (H2 := (H ++ [VO.arr 93 10 [r.row]])) rfl (g_box (x := .agg r.row) rfl rfl) rfl (rfl) (fun _ h => h) (v90 rfl ?_)
 refine wN rfl rfl rfl (v90 rfl ?_)
 refine we rfl (vs (vs (w_regionD (by kernel_rfl) ?_)))
 refine dN (v := .ptr w.lw 0 0) rfl rfl rfl (d90 rfl ?_)
 refine dN (v := .ptr H.length 0 2) rfl rfl rfl (d90 rfl ?_)
 refine dN (v := .int .i64 r.page) rfl (g_load hb0 rfl rfl) rfl (d90 rfl ?_)
 iterate 2 refine dN rfl rfl rfl (d90 rfl ?_)
 refine dN (v := .ptr w.lw 0 (2 + r.page.toNat * 128)) rfl (g_indexA el145 hg0 hg1) rfl (d90 rfl ?_)
 refine dN (v := .ptr H.length 0 3) rfl rfl rfl (d90 rfl ?_)
 refine dN (v := .int .i64 r.pos) rfl (g_load hb0 rfl rfl) rfl (d90 rfl ?_)
 refine dN (v := .ptr H.length 0 3) rfl rfl rfl (d90 rfl ?_)
 refine dN (v := .int .i64 r.pos) rfl (g_load hb0 rfl rfl) rfl (d90 rfl ?_)
 refine dN (v := .ptr H.length 0 4) rfl rfl rfl (d90 rfl ?_)
 refine dN (v := r.bef) rfl (g_load hb0 rfl rfl) rfl (d90 rfl ?_)
 refine dN (v := .int .i64 (r.nb : Int)) rfl (vlen_isL hLb Tryz.underlying68) rfl (d90 rfl ?_)
 refine dN (v := .int .i64 (r.pos + (r.nb : Int))) rfl (int_eq (i64_small (by omega) (by omega))) rfl (d90 rfl ?_)
 refine dN (v := .sub w.lw 0 (2 + r.page.toNat * 128 + r.pos.toNat) 1 r.nb) rfl ((by have := g_sliceA (H := (H ++ [VO.arr 93 10 [r.row]])) (l := w.lw) (i := 0) (k := 2 + r.page.toNat * 128) (a := r.pos) (b := r.pos + (r.nb : Int)) Tryz.underlying109 sz5 hp0 (by omega) (by omega); rw [Nat.mul_one, show (r.pos + (r.nb : Int)).toNat - r.pos.toNat = r.nb by omega] at this; exact this)) rfl (d90 rfl ?_)
 refine dN (v := .str (byteStr (s.was r))) rfl (conv_byt (e := 5) Tryz.underlying68 Tryz.underlying9 Tryz.underlying5 hwas hwb) rfl (d90 rfl ?_)
 refine dN (v := .ptr H.length 0 4) rfl rfl rfl (d90 rfl ?_)
 refine dN (v := r.bef) rfl (g_load hb0 rfl rfl) rfl (d90 rfl ?_)
 refine dN (v := .str (byteStr (lrows r.bef))) rfl (conv_byt (e := 5) Tryz.underlying68 Tryz.underlying9 Tryz.underlying5 (IsL.rowsOf hLb) hr.bef.2.2) rfl (d90 rfl ?_)
 refine dN rfl rfl rfl (d90 rfl ?_)
 refine d_end rfl ?_
 refine vc_cond rfl (fun hc27 => ?_) (fun hc27 => ?_)
 ·
  refine vs (wr ?_)
  refine wN rfl rfl rfl (v90 rfl ?_)
  refine we rfl (vc_ret (r_then (r_fn rfl ?_)))
  refine ⟨_, rfl, rfl, ?_⟩
  have : s.changeOk r = false := by
   have h2 : eqB (s.was r) (lrows r.bef) = false := by have := hc27; simp only [Bool.not_eq_true'] at this; exact this
   rw [St.changeOk, h2, Bool.and_false]
  rw [this]
 refine vc_skip (n_then (vs (vs (wr ?_))))
 refine wN rfl rfl rfl (v90 rfl ?_)
 refine we rfl (vc_block ?_)
 refine vc_loopX (α := { i : Nat // (∀ j p, j < i → w.us[j]? = some p → meetsAt s r p.1 = false) ∧ i ≤ w.us.length }) (fun a => (rnone 4 ++ ([some .undef, some (.int .i64 (a.1 : Nat)), some .undef, some .undef] ++ (rnone 20 ++ (rundef 62))))) (fun a => (H ++ [VO.arr 93 10 [r.row]])) (fun a => w.us.length - a.1) ⟨0, fun j p h => by omega, Nat.zero_le _⟩ (by repeat' first | exact trivial | refine ⟨.inr rfl, ?_⟩ | refine ⟨.inl rfl, ?_⟩ | fail) rfl ?_
 rintro ⟨i, hno, hil⟩ Y0 hY0
 refine vc_norm (env' := (_ :: _ :: _ :: _ :: _ :: (.int .i64 (i : Int)) :: _ :: _ :: _ :: _ :: _ :: _ :: _ :: _ :: _ :: _ :: _ :: _ :: _ :: _ :: _ :: _ :: _ :: _ :: _ :: _ :: _ :: _ :: _ :: _ :: _ :: _ :: _ :: _ :: _ :: _ :: _ :: _ :: _ :: _ :: _ :: _ :: _ :: _ :: _ :: _ :: _ :: _ :: _ :: _ :: _ :: _ :: _ :: _ :: _ :: _ :: _ :: _ :: _ :: _ :: _ :: _ :: _ :: _ :: _ :: _ :: _ :: _ :: _ :: _ :: _ :: _ :: _ :: _ :: _ :: _ :: _ :: _ :: _ :: _ :: _ :: _ :: _ :: _ :: _ :: _ :: _ :: _ :: _ :: _ :: [])) (H' := (H ++ [VO.arr 93 10 [r.row]])) rfl rfl ?_
 refine vs (vs (wr ?_))
 refine wN rfl rfl rfl (v90 rfl ?_)
 refine wN (v := .ptr w.lw 0 0) rfl rfl rfl (v90 rfl ?_)
 iterate 2 refine wN rfl rfl rfl (v90 rfl ?_)
 refine wN (v := w.uv) rfl (g_loadW hWx.wh hWx.row.c1 ag144) rfl (v90 rfl ?_)
 refine wN (v := .int .i64 w.us.length) rfl (rus_len hWx) rfl (v90 rfl ?_)
 refine wN rfl rfl rfl (v90 rfl ?_)
 refine we rfl ?_
 refine vc_cond rfl (fun hc34 => ?_) (fun hc34 => ?_)
 ·
  have hlt : i < w.us.length := by have := of_decide_eq_true hc34; omega
  obtain ⟨p, hp⟩ : ∃ p, w.us[i]? = some p := ⟨_, List.getElem?_eq_getElem hlt⟩
  have hpm := List.mem_of_getElem? hp
  obtain ⟨L, rows0, huv, hL1, hL2⟩ := rus_at hWx hp
  obtain ⟨ho, lv, hu⟩ := hWx.un p hpm
  have hstd := hS.std p.1
  have hleft := hS.left p.1
  have hrl := hS.len
  refine vc_skip (n_then (vs (vc_block (vs (wr ?_)))))
  refine wN (v := .ptr w.lw 0 0) rfl rfl rfl (v90 rfl ?_)
  iterate 2 refine wN rfl rfl rfl (v90 rfl ?_)
  refine wN (v := .row false L 0 w.us.length) rfl ((by rw [← huv]; exact g_loadW hWx.wh hWx.row.c1 ag144)) rfl (v90 rfl ?_)
  refine wN rfl rfl rfl (v90 rfl ?_)
  refine wN (v := .ptr L i 0) rfl (g_index0 el144 hL1 (by omega) (by omega)) rfl (v90 rfl ?_)
  refine wN (v := .ptr p.2 0 0) rfl (g_load hL1 hL2 rfl) rfl (v90 rfl ?_)
  refine wN rfl rfl rfl (v90 rfl ?_)
  refine we rfl (vs (vs (w_regionD (by kernel_rfl) ?_)))
  iterate 3 refine dN rfl rfl rfl (d90 rfl ?_)
  refine dN (v := .int .i64 p.1) rfl (g_load hu.obj rfl rfl) rfl (d90 rfl ?_)
  refine dN (v := .ptr H.length 0 1) rfl rfl rfl (d90 rfl ?_)
  refine dN (v := .int .i64 r.unit) rfl (g_load hb0 rfl rfl) rfl (d90 rfl ?_)
  iterate 2 refine dN rfl rfl rfl (d90 rfl ?_)
  refine d_split 51 rfl (fun hg51 => ?_) (fun hg51 => ?_)
  ·
   have hmk : meetsAt s r p.1 = false := by simp only [meetsAt]; rw [show (p.1 == r.unit || decide ((s.unit p.1).stands > 1)) = true by simp; exact .inl (eq_of_beq hg51)]; rfl
   refine d90 rfl ?_
   iterate 5 refine dS (wanted_f 51 (by kernel_rfl) rfl) (d90 rfl ?_)
   iterate 2 refine dN rfl rfl rfl (d90 rfl ?_)
   iterate 5 refine dS (wanted_f 58 (by kernel_rfl) rfl) (d90 rfl ?_)
   refine dN rfl rfl rfl (d90 rfl ?_)
   refine d_end rfl ?_
   refine vc_true rfl ?_
   refine vc_exit (x_then (x_same (n_then (wr ?_))))
   iterate 3 refine wN rfl rfl rfl (v90 rfl ?_)
   refine we rfl ?_
   refine hY0 ⟨i + 1, fun j x hj hx => by by_cases e : j = i; subst e; rw [hp] at hx; cases hx; exact hmk; exact hno j x (by omega) hx, hlt⟩ (by simp only; omega) _ _ ?_ rfl
   repeat' first | exact trivial | refine ⟨.inr rfl, ?_⟩ | refine ⟨.inl rfl, ?_⟩ | refine ⟨.inl ?_, ?_⟩ | fail
   all_goals first | exact (int_succ (by omega)).symm
  refine d90 rfl ?_
  iterate 3 refine dN (wanted_t 51 (by kernel_rfl) rfl) rfl rfl (d90 rfl ?_)
  refine dN (v := .int .i64 (s.unit p.1).stands) (wanted_t 51 (by kernel_rfl) rfl) (g_load hu.obj rfl rfl) rfl (d90 rfl ?_)
  refine dN (wanted_t 51 (by kernel_rfl) rfl) rfl rfl (d90 rfl ?_)
  iterate 2 refine dN rfl rfl rfl (d90 rfl ?_)
  refine d_split 58 rfl (fun hg58 => ?_) (fun hg58 => ?_)
  ·
   have hmk : meetsAt s r p.1 = false := by simp only [meetsAt]; rw [show (p.1 == r.unit || decide ((s.unit p.1).stands > 1)) = true by simp; right; have := eq_of_beq hg58; omega]; rfl
   refine d90 rfl ?_
   iterate 5 refine dS (wanted_f 58 (by kernel_rfl) rfl) (d90 rfl ?_)
   refine dN rfl rfl rfl (d90 rfl ?_)
   refine d_end rfl ?_
   refine vc_true rfl ?_
   refine vc_exit (x_then (x_same (n_then (wr ?_))))
   iterate 3 refine wN rfl rfl rfl (v90 rfl ?_)
   refine we rfl ?_
   refine hY0 ⟨i + 1, fun j x hj hx => by by_cases e : j = i; subst e; rw [hp] at hx; cases hx; exact hmk; exact hno j x (by omega) hx, hlt⟩ (by simp only; omega) _ _ ?_ rfl
   repeat' first | exact trivial | refine ⟨.inr rfl, ?_⟩ | refine ⟨.inl rfl, ?_⟩ | refine ⟨.inl ?_, ?_⟩ | fail
   all_goals first | exact (int_succ (by omega)).symm
  refine d90 rfl ?_
  iterate 3 refine dN (wanted_t 58 (by kernel_rfl) rfl) rfl rfl (d90 rfl ?_)
  refine dN (v := .int .i64 (s.unit p.1).stands) (wanted_t 58 (by kernel_rfl) rfl) (g_load hu.obj rfl rfl) rfl (d90 rfl ?_)
  refine dN (wanted_t 58 (by kernel_rfl) rfl) rfl rfl (d90 rfl ?_)
  refine dN rfl rfl rfl (d90 rfl ?_)
  refine d_end rfl ?_
  refine vc_cond rfl (fun hc64 => ?_) (fun hc64 => ?_)
  ·
   have hmk : meetsAt s r p.1 = false := by simp only [meetsAt]; rw [show (p.1 == r.unit || decide ((s.unit p.1).stands > 1)) = true by simp; right; have := eq_of_beq hc64; omega]; rfl
   refine vc_exit (x_then (x_same (n_then (wr ?_))))
   iterate 3 refine wN rfl rfl rfl (v90 rfl ?_)
   refine we rfl ?_
   refine hY0 ⟨i + 1, fun j x hj hx => by by_cases e : j = i; subst e; rw [hp] at hx; cases hx; exact hmk; exact hno j x (by omega) hx, hlt⟩ (by simp only; omega) _ _ ?_ rfl
   repeat' first | exact trivial | refine ⟨.inr rfl, ?_⟩ | refine ⟨.inl rfl, ?_⟩ | refine ⟨.inl ?_, ?_⟩ | fail
   all_goals first | exact (int_succ (by omega)).symm
  have h2s : (s.unit p.1).stands ≠ 2 := fun e => by rw [e] at hg58; cases hg58
  have h3s : (s.unit p.1).stands ≠ 3 := fun e => by rw [e] at hc64; cases hc64
  have hsm : (p.1 == r.unit || decide ((s.unit p.1).stands > 1)) = false := by rw [Bool.or_eq_false_iff, decide_eq_false_iff_not]; exact ⟨hg51, by omega⟩
  refine vc_skip (n_then (vs (wr ?_)))
  refine wN rfl rfl rfl (v90 rfl ?_)
  refine we rfl (vc_block ?_)
  refine vc_loopX (α := { j : Nat // j ≤ (s.unit p.1).left.length ∧ ∀ z, z < j → ∀ x, (s.unit p.1).left[z]? = some x → meetsL s r x = false }) (fun a => (rnone 4 ++ ([some .undef, none, none, some (.int .i64 (a.1 : Nat))] ++ (rnone 57 ++ (rundef 25))))) (fun a => (H ++ [VO.arr 93 10 [r.row]])) (fun a => (s.unit p.1).left.length - a.1) ⟨0, Nat.zero_le _, fun z h => by omega⟩ (by repeat' first | exact trivial | refine ⟨.inr rfl, ?_⟩ | refine ⟨.inl rfl, ?_⟩ | fail) rfl ?_
  rintro ⟨j, hjl, hnm⟩ Y1 hY1
  refine vc_norm (env' := (_ :: _ :: _ :: _ :: _ :: _ :: _ :: (.int .i64 (j : Int)) :: _ :: _ :: _ :: _ :: _ :: _ :: _ :: _ :: _ :: _ :: _ :: _ :: _ :: _ :: _ :: _ :: _ :: _ :: _ :: _ :: _ :: _ :: _ :: _ :: _ :: _ :: _ :: _ :: _ :: _ :: _ :: _ :: _ :: _ :: _ :: _ :: _ :: _ :: _ :: _ :: _ :: _ :: _ :: _ :: _ :: _ :: _ :: _ :: _ :: _ :: _ :: _ :: _ :: _ :: _ :: _ :: _ :: _ :: _ :: _ :: _ :: _ :: _ :: _ :: _ :: _ :: _ :: _ :: _ :: _ :: _ :: _ :: _ :: _ :: _ :: _ :: _ :: _ :: _ :: _ :: _ :: _ :: [])) (H' := (H ++ [VO.arr 93 10 [r.row]])) rfl rfl ?_
  refine vs (vs (wr ?_))
  iterate 4 refine wN rfl rfl rfl (v90 rfl ?_)
  refine wN (v := lv) rfl (g_load hu.obj rfl rfl) rfl (v90 rfl ?_)
  refine wN (v := .int .i64 (s.unit p.1).left.length) rfl (rleft_len hu) rfl (v90 rfl ?_)
  refine wN rfl rfl rfl (v90 rfl ?_)
  refine we rfl ?_
  refine vc_cond rfl (fun hc71 => ?_) (fun hc71 => ?_)
  ·
   have hlj : j < (s.unit p.1).left.length := by have := of_decide_eq_true hc71; omega
   obtain ⟨q, hq⟩ : ∃ q, (s.unit p.1).left[j]? = some q := ⟨_, List.getElem?_eq_getElem hlj⟩
   obtain ⟨Lz, rowsz, rfl, hM1, hM2, _, _⟩ := rleft_at hu hq
   have hqb := hS.lft p.1 q (List.mem_of_getElem? hq)
   obtain ⟨c, hc⟩ : ∃ c, s.recs[(q - 1).toNat]? = some c := ⟨_, List.getElem?_eq_getElem (by omega)⟩
   have hcm := List.mem_of_getElem? hc
   have hcO := hW.rok c hcm
   have hcI := hS.rin c hcm
   have hcp0 := hcI.p0
   have hcp1 := hcI.p1
   have hcna : c.na = (lrows c.aft).length := rfl
   obtain ⟨Lr, rowsR, hRv, hR1, hR2⟩ := rrec_at hWx hc
   refine vc_skip (n_then (vs (vc_block (vs (w_regionD (by kernel_rfl) ?_)))))
   refine dN (v := .ptr w.lw 0 0) rfl rfl rfl (d90 rfl ?_)
   iterate 2 refine dN rfl rfl rfl (d90 rfl ?_)
   refine dN (v := .row false Lr 0 s.recs.length) rfl ((by rw [← hRv]; exact g_loadW hWx.wh hWx.row.c0 ag43)) rfl (d90 rfl ?_)
   iterate 3 refine dN rfl rfl rfl (d90 rfl ?_)
   refine dN (v := .row false Lz 0 (s.unit p.1).left.length) rfl (g_load hu.obj rfl rfl) rfl (d90 rfl ?_)
   refine dN rfl rfl rfl (d90 rfl ?_)
   refine dN (v := .ptr Lz j 0) rfl (g_index0 el35 hM1 (by omega) (by omega)) rfl (d90 rfl ?_)
   refine dN (v := .int .i64 q) rfl (g_load hM1 hM2 rfl) rfl (d90 rfl ?_)
   refine dN (v := .int .i64 (q - 1)) rfl (int_eq (i64_small (by omega) (by omega))) rfl (d90 rfl ?_)
   refine dN (v := .ptr Lr (q - 1).toNat 0) rfl (g_index0 el43b hR1 (by omega) (by omega)) rfl (d90 rfl ?_)
   refine dN (v := .agg c.row) rfl (g_load hR1 hR2 rfl) rfl (d90 rfl ?_)
   refine dN (v := .agg r.row) rfl (g_load hb0 rfl rfl) rfl (d90 rfl ?_)
   refine d_callI (env' := _) rfl rfl rfl (by kernel_rfl) rfl (mapL_cons hcO.lend (mapL_cons hr.lend rfl)) (sMeetsR G c r hcO hr ⟨hcp0, by omega, by omega⟩ ⟨hp0, by omega, by omega⟩) rfl (d90 rfl ?_)
   refine d_end rfl ?_
   refine vc_cond rfl (fun hc89 => ?_) (fun hc89 => ?_)
   ·
    refine vs (wr ?_)
    refine wN rfl rfl rfl (v90 rfl ?_)
    refine we rfl (vc_ret (r_block (r_then (r_then (r_block (r_block (r_then (r_then (r_block (r_then (r_fn rfl ?_)))))))))))
    refine ⟨_, rfl, rfl, ?_⟩
    have hmt : meetsL s r q = true := by simp only [meetsL, hc]; exact hc89
    have : s.changeOk r = false := by
     rw [St.changeOk, meets_yes (n := p.1) (by simp only [meetsAt, hsm, Bool.not_false, Bool.true_and]; exact List.any_eq_true.2 ⟨q, List.mem_of_getElem? hq, hmt⟩)]
     rfl
    rw [this]
   have hmf : meetsL s r q = false := by simp only [meetsL, hc]; exact hc89
   refine vc_skip (n_block (n_then (wr ?_)))
   iterate 3 refine wN rfl rfl rfl (v90 rfl ?_)
   refine we rfl ?_
   refine hY1 ⟨j + 1, hlj, fun z hz x hx => by by_cases e : z = j; subst e; rw [hq] at hx; cases hx; exact hmf; exact hnm z (by omega) x hx⟩ (by simp only; omega) _ _ ?_ rfl
   repeat' first | exact trivial | refine ⟨.inr rfl, ?_⟩ | refine ⟨.inl rfl, ?_⟩ | refine ⟨.inl ?_, ?_⟩ | fail
   all_goals first | exact (int_succ (by omega)).symm
  have hgj : (s.unit p.1).left.length ≤ j := by have := of_decide_eq_false hc71; omega
  have hmk : meetsAt s r p.1 = false := by
   simp only [meetsAt, hsm, Bool.not_false, Bool.true_and]
   rw [List.any_eq_false]
   intro x hx
   obtain ⟨z, hz⟩ := List.mem_iff_getElem?.1 hx
   have := hnm z (by have := (List.getElem?_eq_some_iff.1 hz).1; omega) x hz
   simp [this]
  refine vc_exit (x_then (x_then (x_same (n_block (n_then (wr ?_))))))
  iterate 3 refine wN rfl rfl rfl (v90 rfl ?_)
  refine we rfl ?_
  refine hY0 ⟨i + 1, fun j x hj hx => by by_cases e : j = i; subst e; rw [hp] at hx; cases hx; exact hmk; exact hno j x (by omega) hx, hlt⟩ (by simp only; omega) _ _ ?_ rfl
  repeat' first | exact trivial | refine ⟨.inr rfl, ?_⟩ | refine ⟨.inl rfl, ?_⟩ | refine ⟨.inl ?_, ?_⟩ | fail
  all_goals first | exact (int_succ (by omega)).symm
 have hge : w.us.length ≤ i := by have := of_decide_eq_false hc34; omega
 refine vc_exit (x_then (x_then (x_same (n_then (vs (wr ?_))))))
 refine wN rfl rfl rfl (v90 rfl ?_)
 refine we rfl (vc_ret (r_fn rfl ?_))
 refine ⟨_, rfl, rfl, ?_⟩
 have hm := meets_rus hW hS (r := r) fun p hp => by
  obtain ⟨j, hj⟩ := List.mem_iff_getElem?.1 hp
  exact hno j p (by have := (List.getElem?_eq_some_iff.1 hj).1; omega) hj
 have h2 : eqB (s.was r) (lrows r.bef) = true := by have := hc27; simp only [Bool.not_eq_false'] at this; exact this
 rw [St.changeOk, hm, h2]
 rfl
theorem sIsChange (G : Glob) (H : Hp) (w : Rst) (s : St) (own : Nat → Own) (hW : RRep H w s own) (hS : StOk s) (hus : w.us.length ≤ 1000000) (r : Rc) (hr : r.Ok) (hi : r.In) (hbn : r.nb = r.na) : XS Tryz.prog G 124 [.ptr w.lw 0 0, .agg r.row] H (fun v H' => v = .bool (s.changeOk r) ∧ H' = H) :=
 XS.strip ((sIsChangeW G H w s own hW hS hus r hr hi hbn).mono fun v H' ⟨g, h1, h2, h3⟩ => ⟨g, h1, h2, h3, rfl⟩)
theorem srcL {H : Hp} {x : AV} (h : IsL x) : srcRows H x = some (lrows x) := by rcases h with rfl | ⟨t, r, rfl⟩ <;> rfl
theorem get_lastn {H : Hp} {n : Nat} {o : VO} (h : H.length = n) : (H ++ [o])[n]? = some o := by subst h; exact get_last
theorem appR_new {P : Program} {H : Hp} {T sz t t2 by_ n : Nat} {x : AV} {news : List (List AV)} {d2 : TypeDesc} {zc : List AV} (hn : H.length = n) (he : elemAt P t = some (none, T, sz)) (hu : P.underlying t2 = some d2) (hd : isInt d2 = false) (hz : zcOf P T = some zc) (hb : byOf P T = some by_) (hl : zc.length = sz) (h0 : sz ≠ 0) (hb0 : by_ ≠ 0) (hs : x.isStr = false) (hx : srcRows H x = some news) (hlo : lenOk sz news = true) (hne : news ≠ []) (hsz : news.length * by_ ≤ 140737488355328) : vappendR P H t t2 (.list .tight []) x = some (.row false n 0 news.length, H ++ [.arr T sz news]) := by
 subst hn
 have := appR_list (old := []) he hu hd hz hb hl h0 hb0 hs hx hlo hne rfl (by simpa using hsz)
 simpa using this
structure UI (H : Hp) (c : Rc) (k b : Int) (Hz : Hp) (tz : Nat) (af : AV) : Prop where
 pre : ∀ x, x < H.length → Hz[x]? = H[x]?
 low : H.length < tz
 r4 : Hz[H.length]? = some (VO.arr 93 10 [[.int .i64 0, .int .i64 0, .int .i64 0, .int .i64 0, .nils, .nils, .int .i64 0, .int .i64 0, .str ⟨#[]⟩, .nils]])
 obj : Hz[tz]? = some (.arr 93 10 [[.int .i64 2, .int .i64 k, .int .i64 c.page, .int .i64 c.pos, .nils, af, .int .i64 b, .int .i64 0, .str ⟨#[]⟩, .nils]])
 af : (af = .list .tight [] ∧ lrows c.bef = []) ∨ ∃ La, af = .row false La 0 (lrows c.bef).length ∧ Hz[La]? = some (.arr 5 1 (lrows c.bef)) ∧ La ≠ tz ∧ La ≠ H.length
theorem set_same2 {H : Hp} {l : Nat} {o : VO} (h : H[l]? = some o) : H.set l o = H := by
 obtain ⟨h1, h2⟩ := List.getElem?_eq_some_iff.1 h
 rw [← h2]; exact List.set_getElem_self h1
theorem left_row {H : Hp} {own : Nat → Own} {l L n : Nat} {rows0 : List (List AV)} {u : Un} {k : Int} (hu : UnR H own k l (.row false L 0 u.left.length) u) (hL : H[L]? = some (.arr 3 1 rows0)) {q : Int} (hq : u.left[u.left.length - n]? = some q) (hn : n ≤ u.left.length) (h1 : 1 ≤ n) : rows0[((u.left.length : Int) - n).toNat]? = some [.int .i64 q] := by
 obtain ⟨L2, rows2, h2, h3, h4, _, _⟩ := rleft_at hu hq
 injection h2 with _ hLL _ _
 subst hLL
 rw [hL] at h3
 cases h3
 rw [show ((u.left.length : Int) - n).toNat = u.left.length - n by omega]
 exact h4
theorem UI.rows {H Hz : Hp} {c : Rc} {k b : Int} {tz : Nat} {af : AV} (h : UI H c k b Hz tz af) (o o' : VO) : rowsOf ((Hz.set tz o).set H.length o') af = some (lrows c.bef) := by
 rcases h.af with ⟨rfl, he⟩ | ⟨La, rfl, h1, h2, h3⟩
 · rw [he]; rfl
 have := get_set (o' := o') (get_set (o' := o) h1 (fun e => h2 e.symm)) (fun e => h3 e.symm)
 simp only [rowsOf, this]
 rw [if_pos (by omega), List.drop_zero, List.take_length]
theorem ui_e {H Hq : Hp} {c : Rc} {k b : Int} (hbe : lrows c.bef = []) (hql : Hq.length = H.length + 2) (hqp : ∀ x, x < H.length → Hq[x]? = H[x]?) (hq4 : Hq[H.length]? = some (VO.arr 93 10 [[.int .i64 0, .int .i64 0, .int .i64 0, .int .i64 0, .nils, .nils, .int .i64 0, .int .i64 0, .str ⟨#[]⟩, .nils]])) : UI H c k b ((Hq ++ [VO.arr 93 10 [[.int .i64 0, .int .i64 0, .int .i64 0, .int .i64 0, .nils, .nils, .int .i64 0, .int .i64 0, .str ⟨#[]⟩, .nils]]]).set Hq.length (.arr 93 10 [[.int .i64 2, .int .i64 k, .int .i64 c.page, .int .i64 c.pos, .nils, .list .tight [], .int .i64 b, .int .i64 0, .str ⟨#[]⟩, .nils]])) Hq.length (.list .tight []) :=
 ⟨fun x hx => by rw [List.getElem?_set_ne (by omega), List.getElem?_append_left (by omega)]; exact hqp x hx, by omega, get_set (get_app hq4) (by omega), get_self get_last, .inl ⟨rfl, hbe⟩⟩
theorem ui_a {H Hq : Hp} {c : Rc} {k b : Int} (hql : Hq.length = H.length + 2) (hqp : ∀ x, x < H.length → Hq[x]? = H[x]?) (hq4 : Hq[H.length]? = some (VO.arr 93 10 [[.int .i64 0, .int .i64 0, .int .i64 0, .int .i64 0, .nils, .nils, .int .i64 0, .int .i64 0, .str ⟨#[]⟩, .nils]])) : UI H c k b ((Hq ++ [VO.arr 5 1 (lrows c.bef)] ++ [VO.arr 93 10 [[.int .i64 0, .int .i64 0, .int .i64 0, .int .i64 0, .nils, .nils, .int .i64 0, .int .i64 0, .str ⟨#[]⟩, .nils]]]).set (Hq.length + 1) (.arr 93 10 [[.int .i64 2, .int .i64 k, .int .i64 c.page, .int .i64 c.pos, .nils, .row false Hq.length 0 (lrows c.bef).length, .int .i64 b, .int .i64 0, .str ⟨#[]⟩, .nils]])) (Hq.length + 1) (.row false Hq.length 0 (lrows c.bef).length) :=
 ⟨fun x hx => by rw [List.getElem?_set_ne (by omega), List.getElem?_append_left (by simp; omega), List.getElem?_append_left (by omega)]; exact hqp x hx, by omega, get_set (get_app (get_app hq4)) (by omega), get_self (o := VO.arr 93 10 [[.int .i64 0, .int .i64 0, .int .i64 0, .int .i64 0, .nils, .nils, .int .i64 0, .int .i64 0, .str ⟨#[]⟩, .nils]]) (by simp), .inr ⟨Hq.length, rfl, get_set (get_app get_last) (by omega), by omega, by omega⟩⟩
theorem ui_b {H Hq : Hp} {c : Rc} {k b : Int} (hql : Hq.length = H.length + 2) (hqp : ∀ x, x < H.length → Hq[x]? = H[x]?) (hq4 : Hq[H.length]? = some (VO.arr 93 10 [[.int .i64 0, .int .i64 0, .int .i64 0, .int .i64 0, .nils, .nils, .int .i64 0, .int .i64 0, .str ⟨#[]⟩, .nils]])) : UI H c k b ((Hq ++ [VO.arr 93 10 [[.int .i64 0, .int .i64 0, .int .i64 0, .int .i64 0, .nils, .nils, .int .i64 0, .int .i64 0, .str ⟨#[]⟩, .nils]]] ++ [VO.arr 5 1 (lrows c.bef)]).set Hq.length (.arr 93 10 [[.int .i64 2, .int .i64 k, .int .i64 c.page, .int .i64 c.pos, .nils, .row false (Hq.length + 1) 0 (lrows c.bef).length, .int .i64 b, .int .i64 0, .str ⟨#[]⟩, .nils]])) Hq.length (.row false (Hq.length + 1) 0 (lrows c.bef).length) :=
 ⟨fun x hx => by rw [List.getElem?_set_ne (by omega), List.getElem?_append_left (by simp; omega), List.getElem?_append_left (by omega)]; exact hqp x hx, by omega, get_set (get_app (get_app hq4)) (by omega), get_self (get_app get_last), .inr ⟨Hq.length + 1, rfl, get_set (by simp) (by omega), by omega, by omega⟩⟩
set_option maxHeartbeats 8000000 in
theorem sUndone (G : Glob) (H : Hp) (w : Rst) (s : St) (own : Nat → Own) (hW : RRep H w s own) (hS : StOk s) (k : Int) (l : Nat) (lv : AV) (hu : UnR H own k l lv (s.unit k)) (b : Int) (hlast : (s.unit k).left.getLast? = some b) (c : Rc) (hcr : s.recs[(b - 1).toNat]? = some c) : XS Tryz.prog G 153 [.ptr w.lw 0 0, .ptr l 0 0] H (fun v H' => ∃ g af, H' = H ++ g ∧ v = .agg [.int .i64 2, .int .i64 k, .int .i64 c.page, .int .i64 c.pos, .nils, af, .int .i64 b, .int .i64 ((s.unit k).left.dropLast.getLast?.getD 0), .str ⟨#[]⟩, .nils] ∧ rowsOf H' af = some (lrows c.bef)) := by
 have hc := hW.rok c (List.mem_of_getElem? hcr)
 have hn1 : (lrows c.bef).length ≤ 128 := (hS.rin c (List.mem_of_getElem? hcr)).n1
 have hpos : 0 < (s.unit k).left.length := by cases h : (s.unit k).left with | nil => rw [h] at hlast; cases hlast | cons a t => simp
 have hq : (s.unit k).left[(s.unit k).left.length - 1]? = some b := by rw [← List.getLast?_eq_getElem?]; exact hlast
 have hqb := hS.lft k b (List.mem_of_getElem? hq)
 have hleft := hS.left k
 have hrl := hS.len
 have hbb := hc.bef.2.1
 obtain ⟨L, rows0, rfl, hL1, hL2, _, _⟩ := rleft_at hu hq
 rw [show (s.unit k).left.length - 1 = (((s.unit k).left.length : Int) - 1).toNat by omega] at hL2
 obtain ⟨Lr, rowsR, hRv, hR1, hR2⟩ := rrec_at hW hcr
 have hlh := lt_of hu.obj
 have hLh := lt_of hL1
 refine xs_body (fun o => match o.op with | .call ⟨.value (.func f), _, _⟩ => if f = 152 then .iso else .shr | .call ⟨.builtin .append, _, _⟩ => .shr | _ => .iso) Tryz.func153 rfl ?_
 refine vc_norm (env' := (_ :: _ :: _ :: _ :: _ :: _ :: _ :: _ :: _ :: _ :: _ :: _ :: _ :: _ :: _ :: _ :: _ :: _ :: _ :: _ :: _ :: _ :: _ :: _ :: _ :: _ :: _ :: _ :: _ :: _ :: _ :: _ :: _ :: _ :: _ :: _ :: _ :: _ :: _ :: _ :: _ :: _ :: _ :: _ :: _ :: _ :: _ :: _ :: _ :: _ :: _ :: _ :: _ :: _ :: _ :: _ :: _ :: _ :: _ :: _ :: _ :: [])) (H' := _) rfl rfl ?_
 refine vs (wr ?_)
 refine w_opH (v := .ptr H.length 0 0) (env' := _) (H2 := (H ++ [VO.arr 93 10 [[.int .i64 0, .int .i64 0, .int .i64 0, .int .i64 0, .nils, .nils, .int .i64 0, .int .i64 0, .str ⟨#[]⟩, .nils]]])) rfl (g_alloc zr93b rfl rfl) rfl (rfl) (fun _ h => h) (v61 rfl ?_)
 refine we rfl (vs (wr ?_))
 refine wN (v := .ptr l 0 0) rfl rfl rfl (v61 rfl ?_)
 iterate 2 refine wN rfl rfl rfl (v61 rfl ?_)
 refine wN (v := .row false L 0 (s.unit k).left.length) rfl (g_load (get_app hu.obj) rfl rfl) rfl (v61 rfl ?_)
 refine wN (v := .int .i64 (s.unit k).left.length) rfl (rfl) rfl (v61 rfl ?_)
 refine wN rfl rfl rfl (v61 rfl ?_)
 refine we rfl (vs ?_)
 refine w_regionW [((H ++ [VO.arr 93 10 [[.int .i64 0, .int .i64 0, .int .i64 0, .int .i64 0, .nils, .nils, .int .i64 0, .int .i64 0, .str ⟨#[]⟩, .nils]]]) ++ [VO.arr 93 10 [[.int .i64 0, .int .i64 0, .int .i64 0, .int .i64 0, .nils, .nils, .int .i64 0, .int .i64 0, .str ⟨#[]⟩, .nils]]]), (((H ++ [VO.arr 93 10 [[.int .i64 0, .int .i64 0, .int .i64 0, .int .i64 0, .nils, .nils, .int .i64 0, .int .i64 0, .str ⟨#[]⟩, .nils]]]) ++ [VO.arr 93 10 [[.int .i64 0, .int .i64 0, .int .i64 0, .int .i64 0, .nils, .nils, .int .i64 0, .int .i64 0, .str ⟨#[]⟩, .nils]]]).set (H.length + 1) (VO.arr 93 10 [c.row]))] (by kernel_rfl) ?_
 refine e_op (v := .ptr w.lw 0 0) (env' := _) rfl (by decide) (show _ = (0, 1) by kernel_rfl) (by decide) (fun _ _ h => h) (fun q h1 h2 => rfl) rfl (w61 rfl ?_)
 iterate 2 refine e_op (env' := _) rfl (by decide) (show _ = (0, 1) by kernel_rfl) (by decide) (fun _ _ h => h) (fun q h1 h2 => rfl) rfl (w61 rfl ?_)
 refine e_op (v := .row false Lr 0 s.recs.length) (env' := _) rfl (by decide) (show _ = (0, 1) by kernel_rfl) (by decide) (fun _ _ h => h) (fun q h1 h2 => (match q, h1, h2 with | 0, _, _ => (by rw [← hRv]; exact g_loadW (get_app hW.wh) hW.row.c0 ag43) | 1, _, _ => (by rw [← hRv]; exact g_loadW (get_app (get_app hW.wh)) hW.row.c0 ag43) | q + 2, _, h2 => absurd h2 (by omega))) rfl (w61 rfl ?_)
 refine e_op (v := .ptr l 0 0) (env' := _) rfl (by decide) (show _ = (0, 1) by kernel_rfl) (by decide) (fun _ _ h => h) (fun q h1 h2 => rfl) rfl (w61 rfl ?_)
 iterate 2 refine e_op (env' := _) rfl (by decide) (show _ = (0, 1) by kernel_rfl) (by decide) (fun _ _ h => h) (fun q h1 h2 => rfl) rfl (w61 rfl ?_)
 refine e_op (v := .row false L 0 (s.unit k).left.length) (env' := _) rfl (by decide) (show _ = (0, 1) by kernel_rfl) (by decide) (fun _ _ h => h) (fun q h1 h2 => (match q, h1, h2 with | 0, _, _ => g_load (get_app hu.obj) rfl rfl | 1, _, _ => g_load (get_app (get_app hu.obj)) rfl rfl | q + 2, _, h2 => absurd h2 (by omega))) rfl (w61 rfl ?_)
 refine e_op (env' := _) rfl (by decide) (show _ = (0, 1) by kernel_rfl) (by decide) (fun _ _ h => h) (fun q h1 h2 => rfl) rfl (w61 rfl ?_)
 refine e_op (v := .int .i64 (((s.unit k).left.length : Int) - 1)) (env' := _) rfl (by decide) (show _ = (0, 1) by kernel_rfl) (by decide) (fun _ _ h => h) (fun q h1 h2 => (match q, h1, h2 with | 0, _, _ => int_eq (i64_small (by omega) (by omega)) | 1, _, _ => int_eq (i64_small (by omega) (by omega)) | q + 2, _, h2 => absurd h2 (by omega))) rfl (w61 rfl ?_)
 refine e_op (v := .ptr L (((s.unit k).left.length : Int) - 1).toNat 0) (env' := _) rfl (by decide) (show _ = (0, 1) by kernel_rfl) (by decide) (fun _ _ h => h) (fun q h1 h2 => (match q, h1, h2 with | 0, _, _ => g_index0 el35 (get_app hL1) (by omega) (by omega) | 1, _, _ => g_index0 el35 (get_app (get_app hL1)) (by omega) (by omega) | q + 2, _, h2 => absurd h2 (by omega))) rfl (w61 rfl ?_)
 refine e_op (v := .int .i64 b) (env' := _) rfl (by decide) (show _ = (0, 1) by kernel_rfl) (by decide) (fun _ _ h => h) (fun q h1 h2 => (match q, h1, h2 with | 0, _, _ => g_load (get_app hL1) hL2 rfl | 1, _, _ => g_load (get_app (get_app hL1)) hL2 rfl | q + 2, _, h2 => absurd h2 (by omega))) rfl (w61 rfl ?_)
 refine e_op (v := .int .i64 (b - 1)) (env' := _) rfl (by decide) (show _ = (0, 1) by kernel_rfl) (by decide) (fun _ _ h => h) (fun q h1 h2 => (match q, h1, h2 with | 0, _, _ => int_eq (i64_small (by omega) (by omega)) | 1, _, _ => int_eq (i64_small (by omega) (by omega)) | q + 2, _, h2 => absurd h2 (by omega))) rfl (w61 rfl ?_)
 refine e_op (v := .ptr Lr (b - 1).toNat 0) (env' := _) rfl (by decide) (show _ = (0, 1) by kernel_rfl) (by decide) (fun _ _ h => h) (fun q h1 h2 => (match q, h1, h2 with | 0, _, _ => g_index0 el43b (get_app hR1) (by omega) (by omega) | 1, _, _ => g_index0 el43b (get_app (get_app hR1)) (by omega) (by omega) | q + 2, _, h2 => absurd h2 (by omega))) rfl (w61 rfl ?_)
 refine e_op (v := .agg c.row) (env' := _) rfl (by decide) (show _ = (0, 1) by kernel_rfl) (by decide) (fun _ _ h => h) (fun q h1 h2 => (match q, h1, h2 with | 0, _, _ => g_load (get_app hR1) hR2 rfl | 1, _, _ => g_load (get_app (get_app hR1)) hR2 rfl | q + 2, _, h2 => absurd h2 (by omega))) rfl (w61 rfl ?_)
 refine e_eff (H0 := _) (H1 := ((H ++ [VO.arr 93 10 [[.int .i64 0, .int .i64 0, .int .i64 0, .int .i64 0, .nils, .nils, .int .i64 0, .int .i64 0, .str ⟨#[]⟩, .nils]]]) ++ [VO.arr 93 10 [[.int .i64 0, .int .i64 0, .int .i64 0, .int .i64 0, .nils, .nils, .int .i64 0, .int .i64 0, .str ⟨#[]⟩, .nils]]])) (v := .ptr (H.length + 1) 0 0) (env' := _) rfl rfl (show _ = (0, 1) by kernel_rfl) rfl rfl (fun _ _ h => h) (g_alloc zr93b rfl (show (H ++ [VO.arr 93 10 [[.int .i64 0, .int .i64 0, .int .i64 0, .int .i64 0, .nils, .nils, .int .i64 0, .int .i64 0, .str ⟨#[]⟩, .nils]]]).length = H.length + 1 by simp)) rfl (w61 rfl ?_)
 refine e_eff0 (H0 := ((H ++ [VO.arr 93 10 [[.int .i64 0, .int .i64 0, .int .i64 0, .int .i64 0, .nils, .nils, .int .i64 0, .int .i64 0, .str ⟨#[]⟩, .nils]]]) ++ [VO.arr 93 10 [[.int .i64 0, .int .i64 0, .int .i64 0, .int .i64 0, .nils, .nils, .int .i64 0, .int .i64 0, .str ⟨#[]⟩, .nils]]])) (H1 := (((H ++ [VO.arr 93 10 [[.int .i64 0, .int .i64 0, .int .i64 0, .int .i64 0, .nils, .nils, .int .i64 0, .int .i64 0, .str ⟨#[]⟩, .nils]]]) ++ [VO.arr 93 10 [[.int .i64 0, .int .i64 0, .int .i64 0, .int .i64 0, .nils, .nils, .int .i64 0, .int .i64 0, .str ⟨#[]⟩, .nils]]]).set (H.length + 1) (VO.arr 93 10 [c.row]))) rfl rfl (show _ = (1, 2) by kernel_rfl) rfl rfl (fun _ _ h => h) (g_store (i := 0) (k := 0) (x := .agg c.row) (cs := c.row) (rows := [[.int .i64 0, .int .i64 0, .int .i64 0, .int .i64 0, .nils, .nils, .int .i64 0, .int .i64 0, .str ⟨#[]⟩, .nils]]) (get_lastn (H := H ++ [VO.arr 93 10 [[.int .i64 0, .int .i64 0, .int .i64 0, .int .i64 0, .nils, .nils, .int .i64 0, .int .i64 0, .str ⟨#[]⟩, .nils]]]) (by simp)) rfl rfl sz93 ⟨rfl, by simp [Rc.row], by decide⟩) ?_
 refine e_end (H' := (((H ++ [VO.arr 93 10 [[.int .i64 0, .int .i64 0, .int .i64 0, .int .i64 0, .nils, .nils, .int .i64 0, .int .i64 0, .str ⟨#[]⟩, .nils]]]) ++ [VO.arr 93 10 [[.int .i64 0, .int .i64 0, .int .i64 0, .int .i64 0, .nils, .nils, .int .i64 0, .int .i64 0, .str ⟨#[]⟩, .nils]]]).set (H.length + 1) (VO.arr 93 10 [c.row]))) rfl ?_
 refine vc_meet (α := { a : Hp × Nat × AV // UI H c k b a.1 a.2.1 a.2.2 }) (fun a => (rnone 7 ++ ([some (.ptr a.1.2.1 0 0)] ++ (rnone 20 ++ (rundef 21 ++ (rnone 12)))))) (fun a => a.1.1) ?_ ?_
 ·
  intro M3 hM3
  rw [show (((H ++ [VO.arr 93 10 [[.int .i64 0, .int .i64 0, .int .i64 0, .int .i64 0, .nils, .nils, .int .i64 0, .int .i64 0, .str ⟨#[]⟩, .nils]]]) ++ [VO.arr 93 10 [[.int .i64 0, .int .i64 0, .int .i64 0, .int .i64 0, .nils, .nils, .int .i64 0, .int .i64 0, .str ⟨#[]⟩, .nils]]]).set (H.length + 1) (VO.arr 93 10 [c.row])) = H ++ [VO.arr 93 10 [[.int .i64 0, .int .i64 0, .int .i64 0, .int .i64 0, .nils, .nils, .int .i64 0, .int .i64 0, .str ⟨#[]⟩, .nils]]] ++ [VO.arr 93 10 [c.row]] by simp]
  have huq : (H ++ [VO.arr 93 10 [[.int .i64 0, .int .i64 0, .int .i64 0, .int .i64 0, .nils, .nils, .int .i64 0, .int .i64 0, .str ⟨#[]⟩, .nils]]] ++ [VO.arr 93 10 [c.row]])[l]? = _ := get_app (get_app hu.obj)
  have hLq : (H ++ [VO.arr 93 10 [[.int .i64 0, .int .i64 0, .int .i64 0, .int .i64 0, .nils, .nils, .int .i64 0, .int .i64 0, .str ⟨#[]⟩, .nils]]] ++ [VO.arr 93 10 [c.row]])[L]? = _ := get_app (get_app hL1)
  have hcq : (H ++ [VO.arr 93 10 [[.int .i64 0, .int .i64 0, .int .i64 0, .int .i64 0, .nils, .nils, .int .i64 0, .int .i64 0, .str ⟨#[]⟩, .nils]]] ++ [VO.arr 93 10 [c.row]])[H.length + 1]? = some (VO.arr 93 10 [c.row]) := by simp
  have hq4 : (H ++ [VO.arr 93 10 [[.int .i64 0, .int .i64 0, .int .i64 0, .int .i64 0, .nils, .nils, .int .i64 0, .int .i64 0, .str ⟨#[]⟩, .nils]]] ++ [VO.arr 93 10 [c.row]])[H.length]? = some (VO.arr 93 10 [[.int .i64 0, .int .i64 0, .int .i64 0, .int .i64 0, .nils, .nils, .int .i64 0, .int .i64 0, .str ⟨#[]⟩, .nils]]) := by simp
  have hql : (H ++ [VO.arr 93 10 [[.int .i64 0, .int .i64 0, .int .i64 0, .int .i64 0, .nils, .nils, .int .i64 0, .int .i64 0, .str ⟨#[]⟩, .nils]]] ++ [VO.arr 93 10 [c.row]]).length = H.length + 2 := by simp
  have hqp : ∀ x, x < H.length → (H ++ [VO.arr 93 10 [[.int .i64 0, .int .i64 0, .int .i64 0, .int .i64 0, .nils, .nils, .int .i64 0, .int .i64 0, .str ⟨#[]⟩, .nils]]] ++ [VO.arr 93 10 [c.row]])[x]? = H[x]? := fun x hx => by rw [List.append_assoc, List.getElem?_append_left hx]
  generalize (H ++ [VO.arr 93 10 [[.int .i64 0, .int .i64 0, .int .i64 0, .int .i64 0, .nils, .nils, .int .i64 0, .int .i64 0, .str ⟨#[]⟩, .nils]]] ++ [VO.arr 93 10 [c.row]]) = Hq at huq hLq hcq hq4 hql hqp ⊢
  by_cases hbe : lrows c.bef = []
  ·
   refine w_regionO 11 21 (by kernel_rfl) (by kernel_rfl) ?_ ?_
   ·
    refine one_order [0, 1, 2, 3, 4, 5, 6, 7, 8, 9, 10, 11, 12, 13, 14, 15, 16, 17, 18, 19, 20, 21, 22] [(0, 2), (0, 2), (0, 2), (0, 2), (0, 2), (0, 2), (0, 2), (0, 2), (0, 0), (0, 0), (0, 0), (0, 1), (0, 2), (0, 2), (0, 2), (0, 2), (0, 2), (0, 2), (0, 2), (0, 2), (1, 2), (1, 2), (2, 3)] [Hq, (Hq ++ [VO.arr 93 10 [[.int .i64 0, .int .i64 0, .int .i64 0, .int .i64 0, .nils, .nils, .int .i64 0, .int .i64 0, .str ⟨#[]⟩, .nils]]]), ((Hq ++ [VO.arr 93 10 [[.int .i64 0, .int .i64 0, .int .i64 0, .int .i64 0, .nils, .nils, .int .i64 0, .int .i64 0, .str ⟨#[]⟩, .nils]]]).set Hq.length (VO.arr 93 10 [[.int .i64 2, .int .i64 k, .int .i64 c.page, .int .i64 c.pos, .nils, .list .tight [], .int .i64 b, .int .i64 0, .str ⟨#[]⟩, .nils]]))] (by kernel_rfl) (by kernel_rfl) (by kernel_rfl) ?_
    show vopsW _ _ _ _ _ _ _ (_ :: _ :: _ :: _ :: _ :: _ :: _ :: _ :: _ :: _ :: _ :: _ :: _ :: _ :: _ :: _ :: _ :: _ :: _ :: _ :: _ :: _ :: _ :: []) _ _ _
    refine e_op (v := .ptr l 0 0) (env' := _) rfl (by decide) (show _ = (0, 2) by kernel_rfl) (by decide) (fun _ _ h => h) (fun q h1 h2 => rfl) rfl (w61 rfl ?_)
    iterate 2 refine e_op (env' := _) rfl (by decide) (show _ = (0, 2) by kernel_rfl) (by decide) (fun _ _ h => h) (fun q h1 h2 => rfl) rfl (w61 rfl ?_)
    refine e_op (v := .int .i64 k) (env' := _) rfl (by decide) (show _ = (0, 2) by kernel_rfl) (by decide) (fun _ _ h => h) (fun q h1 h2 => (match q, h1, h2 with | 0, _, _ => (by first | exact g_load huq rfl rfl | exact g_load (get_app huq) rfl rfl | exact g_load (get_app (get_app huq)) rfl rfl) | 1, _, _ => (by first | exact g_load huq rfl rfl | exact g_load (get_app huq) rfl rfl | exact g_load (get_app (get_app huq)) rfl rfl) | 2, _, _ => (by first | exact g_load huq rfl rfl | exact g_load (get_app huq) rfl rfl | exact g_load (get_app (get_app huq)) rfl rfl) | q + 3, _, h2 => absurd h2 (by omega))) rfl (w61 rfl ?_)
    refine e_op (v := .ptr (H.length + 1) 0 2) (env' := _) rfl (by decide) (show _ = (0, 2) by kernel_rfl) (by decide) (fun _ _ h => h) (fun q h1 h2 => rfl) rfl (w61 rfl ?_)
    refine e_op (v := .int .i64 c.page) (env' := _) rfl (by decide) (show _ = (0, 2) by kernel_rfl) (by decide) (fun _ _ h => h) (fun q h1 h2 => (match q, h1, h2 with | 0, _, _ => (by first | exact g_load hcq rfl rfl | exact g_load (get_app hcq) rfl rfl | exact g_load (get_app (get_app hcq)) rfl rfl) | 1, _, _ => (by first | exact g_load hcq rfl rfl | exact g_load (get_app hcq) rfl rfl | exact g_load (get_app (get_app hcq)) rfl rfl) | 2, _, _ => (by first | exact g_load hcq rfl rfl | exact g_load (get_app hcq) rfl rfl | exact g_load (get_app (get_app hcq)) rfl rfl) | q + 3, _, h2 => absurd h2 (by omega))) rfl (w61 rfl ?_)
    refine e_op (v := .ptr (H.length + 1) 0 3) (env' := _) rfl (by decide) (show _ = (0, 2) by kernel_rfl) (by decide) (fun _ _ h => h) (fun q h1 h2 => rfl) rfl (w61 rfl ?_)
    refine e_op (v := .int .i64 c.pos) (env' := _) rfl (by decide) (show _ = (0, 2) by kernel_rfl) (by decide) (fun _ _ h => h) (fun q h1 h2 => (match q, h1, h2 with | 0, _, _ => (by first | exact g_load hcq rfl rfl | exact g_load (get_app hcq) rfl rfl | exact g_load (get_app (get_app hcq)) rfl rfl) | 1, _, _ => (by first | exact g_load hcq rfl rfl | exact g_load (get_app hcq) rfl rfl | exact g_load (get_app (get_app hcq)) rfl rfl) | 2, _, _ => (by first | exact g_load hcq rfl rfl | exact g_load (get_app hcq) rfl rfl | exact g_load (get_app (get_app hcq)) rfl rfl) | q + 3, _, h2 => absurd h2 (by omega))) rfl (w61 rfl ?_)
    refine e_op (env' := _) rfl (by decide) (show _ = (0, 0) by kernel_rfl) (by decide) (fun _ _ h => h) (fun q h1 h2 => rfl) rfl (w61 rfl ?_)
    refine e_op (v := .ptr (H.length + 1) 0 4) (env' := _) rfl (by decide) (show _ = (0, 0) by kernel_rfl) (by decide) (fun _ _ h => h) (fun q h1 h2 => rfl) rfl (w61 rfl ?_)
    refine e_op (v := c.bef) (env' := _) rfl (by decide) (show _ = (0, 0) by kernel_rfl) (by decide) (fun _ _ h => h) (fun q h1 h2 => (match q, h1, h2 with | 0, _, _ => (by first | exact g_load hcq rfl rfl | exact g_load (get_app hcq) rfl rfl | exact g_load (get_app (get_app hcq)) rfl rfl) | 1, _, _ => (by first | exact g_load hcq rfl rfl | exact g_load (get_app hcq) rfl rfl | exact g_load (get_app (get_app hcq)) rfl rfl) | 2, _, _ => (by first | exact g_load hcq rfl rfl | exact g_load (get_app hcq) rfl rfl | exact g_load (get_app (get_app hcq)) rfl rfl) | q + 3, _, h2 => absurd h2 (by omega))) rfl (w61 rfl ?_)
    refine e_eff (H0 := _) (H1 := Hq) (v := .list .tight []) (env' := _) rfl rfl (show _ = (0, 1) by kernel_rfl) rfl rfl (fun _ _ h => h) (appR_none (s := .list .tight []) el68 Tryz.underlying68 rfl zc5 by5 rfl (by decide) (by decide) (isL_str hc.bef.1) (by rw [srcL hc.bef.1, hbe]) rfl) rfl (w61 rfl ?_)
    refine e_op (v := .ptr l 0 0) (env' := _) rfl (by decide) (show _ = (0, 2) by kernel_rfl) (by decide) (fun _ _ h => h) (fun q h1 h2 => rfl) rfl (w61 rfl ?_)
    iterate 2 refine e_op (env' := _) rfl (by decide) (show _ = (0, 2) by kernel_rfl) (by decide) (fun _ _ h => h) (fun q h1 h2 => rfl) rfl (w61 rfl ?_)
    refine e_op (v := .row false L 0 (s.unit k).left.length) (env' := _) rfl (by decide) (show _ = (0, 2) by kernel_rfl) (by decide) (fun _ _ h => h) (fun q h1 h2 => (match q, h1, h2 with | 0, _, _ => (by first | exact g_load huq rfl rfl | exact g_load (get_app huq) rfl rfl | exact g_load (get_app (get_app huq)) rfl rfl) | 1, _, _ => (by first | exact g_load huq rfl rfl | exact g_load (get_app huq) rfl rfl | exact g_load (get_app (get_app huq)) rfl rfl) | 2, _, _ => (by first | exact g_load huq rfl rfl | exact g_load (get_app huq) rfl rfl | exact g_load (get_app (get_app huq)) rfl rfl) | q + 3, _, h2 => absurd h2 (by omega))) rfl (w61 rfl ?_)
    refine e_op (env' := _) rfl (by decide) (show _ = (0, 2) by kernel_rfl) (by decide) (fun _ _ h => h) (fun q h1 h2 => rfl) rfl (w61 rfl ?_)
    refine e_op (v := .int .i64 (((s.unit k).left.length : Int) - 1)) (env' := _) rfl (by decide) (show _ = (0, 2) by kernel_rfl) (by decide) (fun _ _ h => h) (fun q h1 h2 => (match q, h1, h2 with | 0, _, _ => int_eq (i64_small (by omega) (by omega)) | 1, _, _ => int_eq (i64_small (by omega) (by omega)) | 2, _, _ => int_eq (i64_small (by omega) (by omega)) | q + 3, _, h2 => absurd h2 (by omega))) rfl (w61 rfl ?_)
    refine e_op (v := .ptr L (((s.unit k).left.length : Int) - 1).toNat 0) (env' := _) rfl (by decide) (show _ = (0, 2) by kernel_rfl) (by decide) (fun _ _ h => h) (fun q h1 h2 => (match q, h1, h2 with | 0, _, _ => (by first | exact g_index0 el35 hLq (by omega) (by omega) | exact g_index0 el35 (get_app hLq) (by omega) (by omega) | exact g_index0 el35 (get_app (get_app hLq)) (by omega) (by omega)) | 1, _, _ => (by first | exact g_index0 el35 hLq (by omega) (by omega) | exact g_index0 el35 (get_app hLq) (by omega) (by omega) | exact g_index0 el35 (get_app (get_app hLq)) (by omega) (by omega)) | 2, _, _ => (by first | exact g_index0 el35 hLq (by omega) (by omega) | exact g_index0 el35 (get_app hLq) (by omega) (by omega) | exact g_index0 el35 (get_app (get_app hLq)) (by omega) (by omega)) | q + 3, _, h2 => absurd h2 (by omega))) rfl (w61 rfl ?_)
    refine e_op (v := .int .i64 b) (env' := _) rfl (by decide) (show _ = (0, 2) by kernel_rfl) (by decide) (fun _ _ h => h) (fun q h1 h2 => (match q, h1, h2 with | 0, _, _ => (by first | exact g_load hLq hL2 rfl | exact g_load (get_app hLq) hL2 rfl | exact g_load (get_app (get_app hLq)) hL2 rfl) | 1, _, _ => (by first | exact g_load hLq hL2 rfl | exact g_load (get_app hLq) hL2 rfl | exact g_load (get_app (get_app hLq)) hL2 rfl) | 2, _, _ => (by first | exact g_load hLq hL2 rfl | exact g_load (get_app hLq) hL2 rfl | exact g_load (get_app (get_app hLq)) hL2 rfl) | q + 3, _, h2 => absurd h2 (by omega))) rfl (w61 rfl ?_)
    refine e_op (v := .agg [_, _, _, _, _, _, _, _, _, _]) (env' := _) rfl (by decide) (show _ = (1, 2) by kernel_rfl) (by decide) (fun _ _ h => h) (fun q h1 h2 => rfl) rfl (w61 rfl ?_)
    refine e_eff (H0 := Hq) (H1 := (Hq ++ [VO.arr 93 10 [[.int .i64 0, .int .i64 0, .int .i64 0, .int .i64 0, .nils, .nils, .int .i64 0, .int .i64 0, .str ⟨#[]⟩, .nils]]])) (v := .ptr Hq.length 0 0) (env' := _) rfl rfl (show _ = (1, 2) by kernel_rfl) rfl rfl (fun _ _ h => h) (g_alloc zr93b rfl rfl) rfl (w61 rfl ?_)
    refine e_eff0 (H0 := (Hq ++ [VO.arr 93 10 [[.int .i64 0, .int .i64 0, .int .i64 0, .int .i64 0, .nils, .nils, .int .i64 0, .int .i64 0, .str ⟨#[]⟩, .nils]]])) (H1 := ((Hq ++ [VO.arr 93 10 [[.int .i64 0, .int .i64 0, .int .i64 0, .int .i64 0, .nils, .nils, .int .i64 0, .int .i64 0, .str ⟨#[]⟩, .nils]]]).set Hq.length (VO.arr 93 10 [[.int .i64 2, .int .i64 k, .int .i64 c.page, .int .i64 c.pos, .nils, .list .tight [], .int .i64 b, .int .i64 0, .str ⟨#[]⟩, .nils]]))) rfl rfl (show _ = (2, 3) by kernel_rfl) rfl rfl (fun _ _ h => h) (g_store (i := 0) (k := 0) (x := .agg [.int .i64 2, .int .i64 k, .int .i64 c.page, .int .i64 c.pos, .nils, .list .tight [], .int .i64 b, .int .i64 0, .str ⟨#[]⟩, .nils]) (cs := [.int .i64 2, .int .i64 k, .int .i64 c.page, .int .i64 c.pos, .nils, .list .tight [], .int .i64 b, .int .i64 0, .str ⟨#[]⟩, .nils]) (rows := [[.int .i64 0, .int .i64 0, .int .i64 0, .int .i64 0, .nils, .nils, .int .i64 0, .int .i64 0, .str ⟨#[]⟩, .nils]]) (get_lastn (H := Hq) (by simp)) rfl rfl sz93 ⟨rfl, by simp, by decide⟩) ?_
    refine e_end (H' := ((Hq ++ [VO.arr 93 10 [[.int .i64 0, .int .i64 0, .int .i64 0, .int .i64 0, .nils, .nils, .int .i64 0, .int .i64 0, .str ⟨#[]⟩, .nils]]]).set Hq.length (VO.arr 93 10 [[.int .i64 2, .int .i64 k, .int .i64 c.page, .int .i64 c.pos, .nils, .list .tight [], .int .i64 b, .int .i64 0, .str ⟨#[]⟩, .nils]]))) rfl ?_
    refine hM3 ⟨(_, _, _), ui_e hbe hql hqp hq4⟩ _ _ (by simp; omega) rfl ?_
    repeat' first | exact trivial | refine ⟨.inr rfl, ?_⟩ | refine ⟨.inl rfl, ?_⟩ | refine ⟨.inl ?_, ?_⟩ | fail
   refine one_order [0, 1, 2, 3, 4, 5, 6, 7, 8, 9, 10, 21, 11, 12, 13, 14, 15, 16, 17, 18, 19, 20, 22] [(0, 2), (0, 2), (0, 2), (0, 2), (0, 2), (0, 2), (0, 2), (0, 2), (0, 1), (0, 1), (0, 1), (1, 2), (0, 2), (0, 2), (0, 2), (0, 2), (0, 2), (0, 2), (0, 2), (0, 2), (2, 2), (0, 1), (2, 3)] [(Hq ++ [VO.arr 93 10 [[.int .i64 0, .int .i64 0, .int .i64 0, .int .i64 0, .nils, .nils, .int .i64 0, .int .i64 0, .str ⟨#[]⟩, .nils]]]), (Hq ++ [VO.arr 93 10 [[.int .i64 0, .int .i64 0, .int .i64 0, .int .i64 0, .nils, .nils, .int .i64 0, .int .i64 0, .str ⟨#[]⟩, .nils]]]), ((Hq ++ [VO.arr 93 10 [[.int .i64 0, .int .i64 0, .int .i64 0, .int .i64 0, .nils, .nils, .int .i64 0, .int .i64 0, .str ⟨#[]⟩, .nils]]]).set Hq.length (VO.arr 93 10 [[.int .i64 2, .int .i64 k, .int .i64 c.page, .int .i64 c.pos, .nils, .list .tight [], .int .i64 b, .int .i64 0, .str ⟨#[]⟩, .nils]]))] (by kernel_rfl) (by kernel_rfl) (by kernel_rfl) ?_
   show vopsW _ _ _ _ _ _ _ (_ :: _ :: _ :: _ :: _ :: _ :: _ :: _ :: _ :: _ :: _ :: _ :: _ :: _ :: _ :: _ :: _ :: _ :: _ :: _ :: _ :: _ :: _ :: []) _ _ _
   refine e_op (v := .ptr l 0 0) (env' := _) rfl (by decide) (show _ = (0, 2) by kernel_rfl) (by decide) (fun _ _ h => h) (fun q h1 h2 => rfl) rfl (w61 rfl ?_)
   iterate 2 refine e_op (env' := _) rfl (by decide) (show _ = (0, 2) by kernel_rfl) (by decide) (fun _ _ h => h) (fun q h1 h2 => rfl) rfl (w61 rfl ?_)
   refine e_op (v := .int .i64 k) (env' := _) rfl (by decide) (show _ = (0, 2) by kernel_rfl) (by decide) (fun _ _ h => h) (fun q h1 h2 => (match q, h1, h2 with | 0, _, _ => (by first | exact g_load huq rfl rfl | exact g_load (get_app huq) rfl rfl | exact g_load (get_app (get_app huq)) rfl rfl) | 1, _, _ => (by first | exact g_load huq rfl rfl | exact g_load (get_app huq) rfl rfl | exact g_load (get_app (get_app huq)) rfl rfl) | 2, _, _ => (by first | exact g_load huq rfl rfl | exact g_load (get_app huq) rfl rfl | exact g_load (get_app (get_app huq)) rfl rfl) | q + 3, _, h2 => absurd h2 (by omega))) rfl (w61 rfl ?_)
   refine e_op (v := .ptr (H.length + 1) 0 2) (env' := _) rfl (by decide) (show _ = (0, 2) by kernel_rfl) (by decide) (fun _ _ h => h) (fun q h1 h2 => rfl) rfl (w61 rfl ?_)
   refine e_op (v := .int .i64 c.page) (env' := _) rfl (by decide) (show _ = (0, 2) by kernel_rfl) (by decide) (fun _ _ h => h) (fun q h1 h2 => (match q, h1, h2 with | 0, _, _ => (by first | exact g_load hcq rfl rfl | exact g_load (get_app hcq) rfl rfl | exact g_load (get_app (get_app hcq)) rfl rfl) | 1, _, _ => (by first | exact g_load hcq rfl rfl | exact g_load (get_app hcq) rfl rfl | exact g_load (get_app (get_app hcq)) rfl rfl) | 2, _, _ => (by first | exact g_load hcq rfl rfl | exact g_load (get_app hcq) rfl rfl | exact g_load (get_app (get_app hcq)) rfl rfl) | q + 3, _, h2 => absurd h2 (by omega))) rfl (w61 rfl ?_)
   refine e_op (v := .ptr (H.length + 1) 0 3) (env' := _) rfl (by decide) (show _ = (0, 2) by kernel_rfl) (by decide) (fun _ _ h => h) (fun q h1 h2 => rfl) rfl (w61 rfl ?_)
   refine e_op (v := .int .i64 c.pos) (env' := _) rfl (by decide) (show _ = (0, 2) by kernel_rfl) (by decide) (fun _ _ h => h) (fun q h1 h2 => (match q, h1, h2 with | 0, _, _ => (by first | exact g_load hcq rfl rfl | exact g_load (get_app hcq) rfl rfl | exact g_load (get_app (get_app hcq)) rfl rfl) | 1, _, _ => (by first | exact g_load hcq rfl rfl | exact g_load (get_app hcq) rfl rfl | exact g_load (get_app (get_app hcq)) rfl rfl) | 2, _, _ => (by first | exact g_load hcq rfl rfl | exact g_load (get_app hcq) rfl rfl | exact g_load (get_app (get_app hcq)) rfl rfl) | q + 3, _, h2 => absurd h2 (by omega))) rfl (w61 rfl ?_)
   refine e_op (env' := _) rfl (by decide) (show _ = (0, 1) by kernel_rfl) (by decide) (fun _ _ h => h) (fun q h1 h2 => rfl) rfl (w61 rfl ?_)
   refine e_op (v := .ptr (H.length + 1) 0 4) (env' := _) rfl (by decide) (show _ = (0, 1) by kernel_rfl) (by decide) (fun _ _ h => h) (fun q h1 h2 => rfl) rfl (w61 rfl ?_)
   refine e_op (v := c.bef) (env' := _) rfl (by decide) (show _ = (0, 1) by kernel_rfl) (by decide) (fun _ _ h => h) (fun q h1 h2 => (match q, h1, h2 with | 0, _, _ => (by first | exact g_load hcq rfl rfl | exact g_load (get_app hcq) rfl rfl | exact g_load (get_app (get_app hcq)) rfl rfl) | 1, _, _ => (by first | exact g_load hcq rfl rfl | exact g_load (get_app hcq) rfl rfl | exact g_load (get_app (get_app hcq)) rfl rfl) | 2, _, _ => (by first | exact g_load hcq rfl rfl | exact g_load (get_app hcq) rfl rfl | exact g_load (get_app (get_app hcq)) rfl rfl) | q + 3, _, h2 => absurd h2 (by omega))) rfl (w61 rfl ?_)
   refine e_eff (H0 := _) (H1 := (Hq ++ [VO.arr 93 10 [[.int .i64 0, .int .i64 0, .int .i64 0, .int .i64 0, .nils, .nils, .int .i64 0, .int .i64 0, .str ⟨#[]⟩, .nils]]])) (v := .ptr Hq.length 0 0) (env' := _) rfl rfl (show _ = (0, 1) by kernel_rfl) rfl rfl (fun _ _ h => h) (g_alloc zr93b rfl rfl) rfl (w61 rfl ?_)
   refine e_eff (H0 := (Hq ++ [VO.arr 93 10 [[.int .i64 0, .int .i64 0, .int .i64 0, .int .i64 0, .nils, .nils, .int .i64 0, .int .i64 0, .str ⟨#[]⟩, .nils]]])) (H1 := (Hq ++ [VO.arr 93 10 [[.int .i64 0, .int .i64 0, .int .i64 0, .int .i64 0, .nils, .nils, .int .i64 0, .int .i64 0, .str ⟨#[]⟩, .nils]]])) (v := .list .tight []) (env' := _) rfl rfl (show _ = (1, 2) by kernel_rfl) rfl rfl (fun _ _ h => h) (appR_none (s := .list .tight []) el68 Tryz.underlying68 rfl zc5 by5 rfl (by decide) (by decide) (isL_str hc.bef.1) (by rw [srcL hc.bef.1, hbe]) rfl) rfl (w61 rfl ?_)
   refine e_op (v := .ptr l 0 0) (env' := _) rfl (by decide) (show _ = (0, 2) by kernel_rfl) (by decide) (fun _ _ h => h) (fun q h1 h2 => rfl) rfl (w61 rfl ?_)
   iterate 2 refine e_op (env' := _) rfl (by decide) (show _ = (0, 2) by kernel_rfl) (by decide) (fun _ _ h => h) (fun q h1 h2 => rfl) rfl (w61 rfl ?_)
   refine e_op (v := .row false L 0 (s.unit k).left.length) (env' := _) rfl (by decide) (show _ = (0, 2) by kernel_rfl) (by decide) (fun _ _ h => h) (fun q h1 h2 => (match q, h1, h2 with | 0, _, _ => (by first | exact g_load huq rfl rfl | exact g_load (get_app huq) rfl rfl | exact g_load (get_app (get_app huq)) rfl rfl) | 1, _, _ => (by first | exact g_load huq rfl rfl | exact g_load (get_app huq) rfl rfl | exact g_load (get_app (get_app huq)) rfl rfl) | 2, _, _ => (by first | exact g_load huq rfl rfl | exact g_load (get_app huq) rfl rfl | exact g_load (get_app (get_app huq)) rfl rfl) | q + 3, _, h2 => absurd h2 (by omega))) rfl (w61 rfl ?_)
   refine e_op (env' := _) rfl (by decide) (show _ = (0, 2) by kernel_rfl) (by decide) (fun _ _ h => h) (fun q h1 h2 => rfl) rfl (w61 rfl ?_)
   refine e_op (v := .int .i64 (((s.unit k).left.length : Int) - 1)) (env' := _) rfl (by decide) (show _ = (0, 2) by kernel_rfl) (by decide) (fun _ _ h => h) (fun q h1 h2 => (match q, h1, h2 with | 0, _, _ => int_eq (i64_small (by omega) (by omega)) | 1, _, _ => int_eq (i64_small (by omega) (by omega)) | 2, _, _ => int_eq (i64_small (by omega) (by omega)) | q + 3, _, h2 => absurd h2 (by omega))) rfl (w61 rfl ?_)
   refine e_op (v := .ptr L (((s.unit k).left.length : Int) - 1).toNat 0) (env' := _) rfl (by decide) (show _ = (0, 2) by kernel_rfl) (by decide) (fun _ _ h => h) (fun q h1 h2 => (match q, h1, h2 with | 0, _, _ => (by first | exact g_index0 el35 hLq (by omega) (by omega) | exact g_index0 el35 (get_app hLq) (by omega) (by omega) | exact g_index0 el35 (get_app (get_app hLq)) (by omega) (by omega)) | 1, _, _ => (by first | exact g_index0 el35 hLq (by omega) (by omega) | exact g_index0 el35 (get_app hLq) (by omega) (by omega) | exact g_index0 el35 (get_app (get_app hLq)) (by omega) (by omega)) | 2, _, _ => (by first | exact g_index0 el35 hLq (by omega) (by omega) | exact g_index0 el35 (get_app hLq) (by omega) (by omega) | exact g_index0 el35 (get_app (get_app hLq)) (by omega) (by omega)) | q + 3, _, h2 => absurd h2 (by omega))) rfl (w61 rfl ?_)
   refine e_op (v := .int .i64 b) (env' := _) rfl (by decide) (show _ = (0, 2) by kernel_rfl) (by decide) (fun _ _ h => h) (fun q h1 h2 => (match q, h1, h2 with | 0, _, _ => (by first | exact g_load hLq hL2 rfl | exact g_load (get_app hLq) hL2 rfl | exact g_load (get_app (get_app hLq)) hL2 rfl) | 1, _, _ => (by first | exact g_load hLq hL2 rfl | exact g_load (get_app hLq) hL2 rfl | exact g_load (get_app (get_app hLq)) hL2 rfl) | 2, _, _ => (by first | exact g_load hLq hL2 rfl | exact g_load (get_app hLq) hL2 rfl | exact g_load (get_app (get_app hLq)) hL2 rfl) | q + 3, _, h2 => absurd h2 (by omega))) rfl (w61 rfl ?_)
   refine e_op (v := .agg [_, _, _, _, _, _, _, _, _, _]) (env' := _) rfl (by decide) (show _ = (2, 2) by kernel_rfl) (by decide) (fun _ _ h => h) (fun q h1 h2 => rfl) rfl (w61 rfl ?_)
   refine e_eff0 (H0 := (Hq ++ [VO.arr 93 10 [[.int .i64 0, .int .i64 0, .int .i64 0, .int .i64 0, .nils, .nils, .int .i64 0, .int .i64 0, .str ⟨#[]⟩, .nils]]])) (H1 := ((Hq ++ [VO.arr 93 10 [[.int .i64 0, .int .i64 0, .int .i64 0, .int .i64 0, .nils, .nils, .int .i64 0, .int .i64 0, .str ⟨#[]⟩, .nils]]]).set Hq.length (VO.arr 93 10 [[.int .i64 2, .int .i64 k, .int .i64 c.page, .int .i64 c.pos, .nils, .list .tight [], .int .i64 b, .int .i64 0, .str ⟨#[]⟩, .nils]]))) rfl rfl (show _ = (2, 3) by kernel_rfl) rfl rfl (fun _ _ h => h) (g_store (i := 0) (k := 0) (x := .agg [.int .i64 2, .int .i64 k, .int .i64 c.page, .int .i64 c.pos, .nils, .list .tight [], .int .i64 b, .int .i64 0, .str ⟨#[]⟩, .nils]) (cs := [.int .i64 2, .int .i64 k, .int .i64 c.page, .int .i64 c.pos, .nils, .list .tight [], .int .i64 b, .int .i64 0, .str ⟨#[]⟩, .nils]) (rows := [[.int .i64 0, .int .i64 0, .int .i64 0, .int .i64 0, .nils, .nils, .int .i64 0, .int .i64 0, .str ⟨#[]⟩, .nils]]) (get_last (H := Hq)) rfl rfl sz93 ⟨rfl, by simp, by decide⟩) ?_
   refine e_end (H' := ((Hq ++ [VO.arr 93 10 [[.int .i64 0, .int .i64 0, .int .i64 0, .int .i64 0, .nils, .nils, .int .i64 0, .int .i64 0, .str ⟨#[]⟩, .nils]]]).set Hq.length (VO.arr 93 10 [[.int .i64 2, .int .i64 k, .int .i64 c.page, .int .i64 c.pos, .nils, .list .tight [], .int .i64 b, .int .i64 0, .str ⟨#[]⟩, .nils]]))) rfl ?_
   refine hM3 ⟨(_, _, _), ui_e hbe hql hqp hq4⟩ _ _ (by simp; omega) rfl ?_
   repeat' first | exact trivial | refine ⟨.inr rfl, ?_⟩ | refine ⟨.inl rfl, ?_⟩ | refine ⟨.inl ?_, ?_⟩ | fail
  refine w_regionO 11 21 (by kernel_rfl) (by kernel_rfl) ?_ ?_
  ·
   refine one_order [0, 1, 2, 3, 4, 5, 6, 7, 8, 9, 10, 11, 12, 13, 14, 15, 16, 17, 18, 19, 20, 21, 22] [(0, 2), (0, 2), (0, 2), (0, 2), (0, 2), (0, 2), (0, 2), (0, 2), (0, 0), (0, 0), (0, 0), (0, 1), (0, 2), (0, 2), (0, 2), (0, 2), (0, 2), (0, 2), (0, 2), (0, 2), (1, 2), (1, 2), (2, 3)] [(Hq ++ [VO.arr 5 1 (lrows c.bef)]), (Hq ++ [VO.arr 5 1 (lrows c.bef)] ++ [VO.arr 93 10 [[.int .i64 0, .int .i64 0, .int .i64 0, .int .i64 0, .nils, .nils, .int .i64 0, .int .i64 0, .str ⟨#[]⟩, .nils]]]), ((Hq ++ [VO.arr 5 1 (lrows c.bef)] ++ [VO.arr 93 10 [[.int .i64 0, .int .i64 0, .int .i64 0, .int .i64 0, .nils, .nils, .int .i64 0, .int .i64 0, .str ⟨#[]⟩, .nils]]]).set (Hq.length + 1) (VO.arr 93 10 [[.int .i64 2, .int .i64 k, .int .i64 c.page, .int .i64 c.pos, .nils, .row false Hq.length 0 (lrows c.bef).length, .int .i64 b, .int .i64 0, .str ⟨#[]⟩, .nils]]))] (by kernel_rfl) (by kernel_rfl) (by kernel_rfl) ?_
   show vopsW _ _ _ _ _ _ _ (_ :: _ :: _ :: _ :: _ :: _ :: _ :: _ :: _ :: _ :: _ :: _ :: _ :: _ :: _ :: _ :: _ :: _ :: _ :: _ :: _ :: _ :: _ :: []) _ _ _
   refine e_op (v := .ptr l 0 0) (env' := _) rfl (by decide) (show _ = (0, 2) by kernel_rfl) (by decide) (fun _ _ h => h) (fun q h1 h2 => rfl) rfl (w61 rfl ?_)
   iterate 2 refine e_op (env' := _) rfl (by decide) (show _ = (0, 2) by kernel_rfl) (by decide) (fun _ _ h => h) (fun q h1 h2 => rfl) rfl (w61 rfl ?_)
   refine e_op (v := .int .i64 k) (env' := _) rfl (by decide) (show _ = (0, 2) by kernel_rfl) (by decide) (fun _ _ h => h) (fun q h1 h2 => (match q, h1, h2 with | 0, _, _ => (by first | exact g_load huq rfl rfl | exact g_load (get_app huq) rfl rfl | exact g_load (get_app (get_app huq)) rfl rfl) | 1, _, _ => (by first | exact g_load huq rfl rfl | exact g_load (get_app huq) rfl rfl | exact g_load (get_app (get_app huq)) rfl rfl) | 2, _, _ => (by first | exact g_load huq rfl rfl | exact g_load (get_app huq) rfl rfl | exact g_load (get_app (get_app huq)) rfl rfl) | q + 3, _, h2 => absurd h2 (by omega))) rfl (w61 rfl ?_)
   refine e_op (v := .ptr (H.length + 1) 0 2) (env' := _) rfl (by decide) (show _ = (0, 2) by kernel_rfl) (by decide) (fun _ _ h => h) (fun q h1 h2 => rfl) rfl (w61 rfl ?_)
   refine e_op (v := .int .i64 c.page) (env' := _) rfl (by decide) (show _ = (0, 2) by kernel_rfl) (by decide) (fun _ _ h => h) (fun q h1 h2 => (match q, h1, h2 with | 0, _, _ => (by first | exact g_load hcq rfl rfl | exact g_load (get_app hcq) rfl rfl | exact g_load (get_app (get_app hcq)) rfl rfl) | 1, _, _ => (by first | exact g_load hcq rfl rfl | exact g_load (get_app hcq) rfl rfl | exact g_load (get_app (get_app hcq)) rfl rfl) | 2, _, _ => (by first | exact g_load hcq rfl rfl | exact g_load (get_app hcq) rfl rfl | exact g_load (get_app (get_app hcq)) rfl rfl) | q + 3, _, h2 => absurd h2 (by omega))) rfl (w61 rfl ?_)
   refine e_op (v := .ptr (H.length + 1) 0 3) (env' := _) rfl (by decide) (show _ = (0, 2) by kernel_rfl) (by decide) (fun _ _ h => h) (fun q h1 h2 => rfl) rfl (w61 rfl ?_)
   refine e_op (v := .int .i64 c.pos) (env' := _) rfl (by decide) (show _ = (0, 2) by kernel_rfl) (by decide) (fun _ _ h => h) (fun q h1 h2 => (match q, h1, h2 with | 0, _, _ => (by first | exact g_load hcq rfl rfl | exact g_load (get_app hcq) rfl rfl | exact g_load (get_app (get_app hcq)) rfl rfl) | 1, _, _ => (by first | exact g_load hcq rfl rfl | exact g_load (get_app hcq) rfl rfl | exact g_load (get_app (get_app hcq)) rfl rfl) | 2, _, _ => (by first | exact g_load hcq rfl rfl | exact g_load (get_app hcq) rfl rfl | exact g_load (get_app (get_app hcq)) rfl rfl) | q + 3, _, h2 => absurd h2 (by omega))) rfl (w61 rfl ?_)
   refine e_op (env' := _) rfl (by decide) (show _ = (0, 0) by kernel_rfl) (by decide) (fun _ _ h => h) (fun q h1 h2 => rfl) rfl (w61 rfl ?_)
   refine e_op (v := .ptr (H.length + 1) 0 4) (env' := _) rfl (by decide) (show _ = (0, 0) by kernel_rfl) (by decide) (fun _ _ h => h) (fun q h1 h2 => rfl) rfl (w61 rfl ?_)
   refine e_op (v := c.bef) (env' := _) rfl (by decide) (show _ = (0, 0) by kernel_rfl) (by decide) (fun _ _ h => h) (fun q h1 h2 => (match q, h1, h2 with | 0, _, _ => (by first | exact g_load hcq rfl rfl | exact g_load (get_app hcq) rfl rfl | exact g_load (get_app (get_app hcq)) rfl rfl) | 1, _, _ => (by first | exact g_load hcq rfl rfl | exact g_load (get_app hcq) rfl rfl | exact g_load (get_app (get_app hcq)) rfl rfl) | 2, _, _ => (by first | exact g_load hcq rfl rfl | exact g_load (get_app hcq) rfl rfl | exact g_load (get_app (get_app hcq)) rfl rfl) | q + 3, _, h2 => absurd h2 (by omega))) rfl (w61 rfl ?_)
   refine e_eff (H0 := _) (H1 := (Hq ++ [VO.arr 5 1 (lrows c.bef)])) (v := .row false Hq.length 0 (lrows c.bef).length) (env' := _) rfl rfl (show _ = (0, 1) by kernel_rfl) rfl rfl (fun _ _ h => h) (appR_new (H := Hq) (by simp) el68 Tryz.underlying68 rfl zc5 by5 rfl (by decide) (by decide) (isL_str hc.bef.1) (srcL hc.bef.1) (byt_len hc.bef) hbe (by omega)) rfl (w61 rfl ?_)
   refine e_op (v := .ptr l 0 0) (env' := _) rfl (by decide) (show _ = (0, 2) by kernel_rfl) (by decide) (fun _ _ h => h) (fun q h1 h2 => rfl) rfl (w61 rfl ?_)
   iterate 2 refine e_op (env' := _) rfl (by decide) (show _ = (0, 2) by kernel_rfl) (by decide) (fun _ _ h => h) (fun q h1 h2 => rfl) rfl (w61 rfl ?_)
   refine e_op (v := .row false L 0 (s.unit k).left.length) (env' := _) rfl (by decide) (show _ = (0, 2) by kernel_rfl) (by decide) (fun _ _ h => h) (fun q h1 h2 => (match q, h1, h2 with | 0, _, _ => (by first | exact g_load huq rfl rfl | exact g_load (get_app huq) rfl rfl | exact g_load (get_app (get_app huq)) rfl rfl) | 1, _, _ => (by first | exact g_load huq rfl rfl | exact g_load (get_app huq) rfl rfl | exact g_load (get_app (get_app huq)) rfl rfl) | 2, _, _ => (by first | exact g_load huq rfl rfl | exact g_load (get_app huq) rfl rfl | exact g_load (get_app (get_app huq)) rfl rfl) | q + 3, _, h2 => absurd h2 (by omega))) rfl (w61 rfl ?_)
   refine e_op (env' := _) rfl (by decide) (show _ = (0, 2) by kernel_rfl) (by decide) (fun _ _ h => h) (fun q h1 h2 => rfl) rfl (w61 rfl ?_)
   refine e_op (v := .int .i64 (((s.unit k).left.length : Int) - 1)) (env' := _) rfl (by decide) (show _ = (0, 2) by kernel_rfl) (by decide) (fun _ _ h => h) (fun q h1 h2 => (match q, h1, h2 with | 0, _, _ => int_eq (i64_small (by omega) (by omega)) | 1, _, _ => int_eq (i64_small (by omega) (by omega)) | 2, _, _ => int_eq (i64_small (by omega) (by omega)) | q + 3, _, h2 => absurd h2 (by omega))) rfl (w61 rfl ?_)
   refine e_op (v := .ptr L (((s.unit k).left.length : Int) - 1).toNat 0) (env' := _) rfl (by decide) (show _ = (0, 2) by kernel_rfl) (by decide) (fun _ _ h => h) (fun q h1 h2 => (match q, h1, h2 with | 0, _, _ => (by first | exact g_index0 el35 hLq (by omega) (by omega) | exact g_index0 el35 (get_app hLq) (by omega) (by omega) | exact g_index0 el35 (get_app (get_app hLq)) (by omega) (by omega)) | 1, _, _ => (by first | exact g_index0 el35 hLq (by omega) (by omega) | exact g_index0 el35 (get_app hLq) (by omega) (by omega) | exact g_index0 el35 (get_app (get_app hLq)) (by omega) (by omega)) | 2, _, _ => (by first | exact g_index0 el35 hLq (by omega) (by omega) | exact g_index0 el35 (get_app hLq) (by omega) (by omega) | exact g_index0 el35 (get_app (get_app hLq)) (by omega) (by omega)) | q + 3, _, h2 => absurd h2 (by omega))) rfl (w61 rfl ?_)
   refine e_op (v := .int .i64 b) (env' := _) rfl (by decide) (show _ = (0, 2) by kernel_rfl) (by decide) (fun _ _ h => h) (fun q h1 h2 => (match q, h1, h2 with | 0, _, _ => (by first | exact g_load hLq hL2 rfl | exact g_load (get_app hLq) hL2 rfl | exact g_load (get_app (get_app hLq)) hL2 rfl) | 1, _, _ => (by first | exact g_load hLq hL2 rfl | exact g_load (get_app hLq) hL2 rfl | exact g_load (get_app (get_app hLq)) hL2 rfl) | 2, _, _ => (by first | exact g_load hLq hL2 rfl | exact g_load (get_app hLq) hL2 rfl | exact g_load (get_app (get_app hLq)) hL2 rfl) | q + 3, _, h2 => absurd h2 (by omega))) rfl (w61 rfl ?_)
   refine e_op (v := .agg [_, _, _, _, _, _, _, _, _, _]) (env' := _) rfl (by decide) (show _ = (1, 2) by kernel_rfl) (by decide) (fun _ _ h => h) (fun q h1 h2 => rfl) rfl (w61 rfl ?_)
   refine e_eff (H0 := (Hq ++ [VO.arr 5 1 (lrows c.bef)])) (H1 := (Hq ++ [VO.arr 5 1 (lrows c.bef)] ++ [VO.arr 93 10 [[.int .i64 0, .int .i64 0, .int .i64 0, .int .i64 0, .nils, .nils, .int .i64 0, .int .i64 0, .str ⟨#[]⟩, .nils]]])) (v := .ptr (Hq.length + 1) 0 0) (env' := _) rfl rfl (show _ = (1, 2) by kernel_rfl) rfl rfl (fun _ _ h => h) (g_alloc zr93b rfl (show (Hq ++ [VO.arr 5 1 (lrows c.bef)]).length = Hq.length + 1 by simp)) rfl (w61 rfl ?_)
   refine e_eff0 (H0 := (Hq ++ [VO.arr 5 1 (lrows c.bef)] ++ [VO.arr 93 10 [[.int .i64 0, .int .i64 0, .int .i64 0, .int .i64 0, .nils, .nils, .int .i64 0, .int .i64 0, .str ⟨#[]⟩, .nils]]])) (H1 := ((Hq ++ [VO.arr 5 1 (lrows c.bef)] ++ [VO.arr 93 10 [[.int .i64 0, .int .i64 0, .int .i64 0, .int .i64 0, .nils, .nils, .int .i64 0, .int .i64 0, .str ⟨#[]⟩, .nils]]]).set (Hq.length + 1) (VO.arr 93 10 [[.int .i64 2, .int .i64 k, .int .i64 c.page, .int .i64 c.pos, .nils, .row false Hq.length 0 (lrows c.bef).length, .int .i64 b, .int .i64 0, .str ⟨#[]⟩, .nils]]))) rfl rfl (show _ = (2, 3) by kernel_rfl) rfl rfl (fun _ _ h => h) (g_store (i := 0) (k := 0) (x := .agg [.int .i64 2, .int .i64 k, .int .i64 c.page, .int .i64 c.pos, .nils, .row false Hq.length 0 (lrows c.bef).length, .int .i64 b, .int .i64 0, .str ⟨#[]⟩, .nils]) (cs := [.int .i64 2, .int .i64 k, .int .i64 c.page, .int .i64 c.pos, .nils, .row false Hq.length 0 (lrows c.bef).length, .int .i64 b, .int .i64 0, .str ⟨#[]⟩, .nils]) (rows := [[.int .i64 0, .int .i64 0, .int .i64 0, .int .i64 0, .nils, .nils, .int .i64 0, .int .i64 0, .str ⟨#[]⟩, .nils]]) (get_lastn (H := (Hq ++ [VO.arr 5 1 (lrows c.bef)])) (by simp)) rfl rfl sz93 ⟨rfl, by simp, by decide⟩) ?_
   refine e_end (H' := ((Hq ++ [VO.arr 5 1 (lrows c.bef)] ++ [VO.arr 93 10 [[.int .i64 0, .int .i64 0, .int .i64 0, .int .i64 0, .nils, .nils, .int .i64 0, .int .i64 0, .str ⟨#[]⟩, .nils]]]).set (Hq.length + 1) (VO.arr 93 10 [[.int .i64 2, .int .i64 k, .int .i64 c.page, .int .i64 c.pos, .nils, .row false Hq.length 0 (lrows c.bef).length, .int .i64 b, .int .i64 0, .str ⟨#[]⟩, .nils]]))) rfl ?_
   refine hM3 ⟨(_, _, _), ui_a hql hqp hq4⟩ _ _ (by simp; omega) rfl ?_
   repeat' first | exact trivial | refine ⟨.inr rfl, ?_⟩ | refine ⟨.inl rfl, ?_⟩ | refine ⟨.inl ?_, ?_⟩ | fail
  refine one_order [0, 1, 2, 3, 4, 5, 6, 7, 8, 9, 10, 21, 11, 12, 13, 14, 15, 16, 17, 18, 19, 20, 22] [(0, 2), (0, 2), (0, 2), (0, 2), (0, 2), (0, 2), (0, 2), (0, 2), (0, 1), (0, 1), (0, 1), (1, 2), (0, 2), (0, 2), (0, 2), (0, 2), (0, 2), (0, 2), (0, 2), (0, 2), (2, 2), (0, 1), (2, 3)] [(Hq ++ [VO.arr 93 10 [[.int .i64 0, .int .i64 0, .int .i64 0, .int .i64 0, .nils, .nils, .int .i64 0, .int .i64 0, .str ⟨#[]⟩, .nils]]]), (Hq ++ [VO.arr 93 10 [[.int .i64 0, .int .i64 0, .int .i64 0, .int .i64 0, .nils, .nils, .int .i64 0, .int .i64 0, .str ⟨#[]⟩, .nils]]] ++ [VO.arr 5 1 (lrows c.bef)]), ((Hq ++ [VO.arr 93 10 [[.int .i64 0, .int .i64 0, .int .i64 0, .int .i64 0, .nils, .nils, .int .i64 0, .int .i64 0, .str ⟨#[]⟩, .nils]]] ++ [VO.arr 5 1 (lrows c.bef)]).set Hq.length (VO.arr 93 10 [[.int .i64 2, .int .i64 k, .int .i64 c.page, .int .i64 c.pos, .nils, .row false (Hq.length + 1) 0 (lrows c.bef).length, .int .i64 b, .int .i64 0, .str ⟨#[]⟩, .nils]]))] (by kernel_rfl) (by kernel_rfl) (by kernel_rfl) ?_
  show vopsW _ _ _ _ _ _ _ (_ :: _ :: _ :: _ :: _ :: _ :: _ :: _ :: _ :: _ :: _ :: _ :: _ :: _ :: _ :: _ :: _ :: _ :: _ :: _ :: _ :: _ :: _ :: []) _ _ _
  refine e_op (v := .ptr l 0 0) (env' := _) rfl (by decide) (show _ = (0, 2) by kernel_rfl) (by decide) (fun _ _ h => h) (fun q h1 h2 => rfl) rfl (w61 rfl ?_)
  iterate 2 refine e_op (env' := _) rfl (by decide) (show _ = (0, 2) by kernel_rfl) (by decide) (fun _ _ h => h) (fun q h1 h2 => rfl) rfl (w61 rfl ?_)
  refine e_op (v := .int .i64 k) (env' := _) rfl (by decide) (show _ = (0, 2) by kernel_rfl) (by decide) (fun _ _ h => h) (fun q h1 h2 => (match q, h1, h2 with | 0, _, _ => (by first | exact g_load huq rfl rfl | exact g_load (get_app huq) rfl rfl | exact g_load (get_app (get_app huq)) rfl rfl) | 1, _, _ => (by first | exact g_load huq rfl rfl | exact g_load (get_app huq) rfl rfl | exact g_load (get_app (get_app huq)) rfl rfl) | 2, _, _ => (by first | exact g_load huq rfl rfl | exact g_load (get_app huq) rfl rfl | exact g_load (get_app (get_app huq)) rfl rfl) | q + 3, _, h2 => absurd h2 (by omega))) rfl (w61 rfl ?_)
  refine e_op (v := .ptr (H.length + 1) 0 2) (env' := _) rfl (by decide) (show _ = (0, 2) by kernel_rfl) (by decide) (fun _ _ h => h) (fun q h1 h2 => rfl) rfl (w61 rfl ?_)
  refine e_op (v := .int .i64 c.page) (env' := _) rfl (by decide) (show _ = (0, 2) by kernel_rfl) (by decide) (fun _ _ h => h) (fun q h1 h2 => (match q, h1, h2 with | 0, _, _ => (by first | exact g_load hcq rfl rfl | exact g_load (get_app hcq) rfl rfl | exact g_load (get_app (get_app hcq)) rfl rfl) | 1, _, _ => (by first | exact g_load hcq rfl rfl | exact g_load (get_app hcq) rfl rfl | exact g_load (get_app (get_app hcq)) rfl rfl) | 2, _, _ => (by first | exact g_load hcq rfl rfl | exact g_load (get_app hcq) rfl rfl | exact g_load (get_app (get_app hcq)) rfl rfl) | q + 3, _, h2 => absurd h2 (by omega))) rfl (w61 rfl ?_)
  refine e_op (v := .ptr (H.length + 1) 0 3) (env' := _) rfl (by decide) (show _ = (0, 2) by kernel_rfl) (by decide) (fun _ _ h => h) (fun q h1 h2 => rfl) rfl (w61 rfl ?_)
  refine e_op (v := .int .i64 c.pos) (env' := _) rfl (by decide) (show _ = (0, 2) by kernel_rfl) (by decide) (fun _ _ h => h) (fun q h1 h2 => (match q, h1, h2 with | 0, _, _ => (by first | exact g_load hcq rfl rfl | exact g_load (get_app hcq) rfl rfl | exact g_load (get_app (get_app hcq)) rfl rfl) | 1, _, _ => (by first | exact g_load hcq rfl rfl | exact g_load (get_app hcq) rfl rfl | exact g_load (get_app (get_app hcq)) rfl rfl) | 2, _, _ => (by first | exact g_load hcq rfl rfl | exact g_load (get_app hcq) rfl rfl | exact g_load (get_app (get_app hcq)) rfl rfl) | q + 3, _, h2 => absurd h2 (by omega))) rfl (w61 rfl ?_)
  refine e_op (env' := _) rfl (by decide) (show _ = (0, 1) by kernel_rfl) (by decide) (fun _ _ h => h) (fun q h1 h2 => rfl) rfl (w61 rfl ?_)
  refine e_op (v := .ptr (H.length + 1) 0 4) (env' := _) rfl (by decide) (show _ = (0, 1) by kernel_rfl) (by decide) (fun _ _ h => h) (fun q h1 h2 => rfl) rfl (w61 rfl ?_)
  refine e_op (v := c.bef) (env' := _) rfl (by decide) (show _ = (0, 1) by kernel_rfl) (by decide) (fun _ _ h => h) (fun q h1 h2 => (match q, h1, h2 with | 0, _, _ => (by first | exact g_load hcq rfl rfl | exact g_load (get_app hcq) rfl rfl | exact g_load (get_app (get_app hcq)) rfl rfl) | 1, _, _ => (by first | exact g_load hcq rfl rfl | exact g_load (get_app hcq) rfl rfl | exact g_load (get_app (get_app hcq)) rfl rfl) | 2, _, _ => (by first | exact g_load hcq rfl rfl | exact g_load (get_app hcq) rfl rfl | exact g_load (get_app (get_app hcq)) rfl rfl) | q + 3, _, h2 => absurd h2 (by omega))) rfl (w61 rfl ?_)
  refine e_eff (H0 := _) (H1 := (Hq ++ [VO.arr 93 10 [[.int .i64 0, .int .i64 0, .int .i64 0, .int .i64 0, .nils, .nils, .int .i64 0, .int .i64 0, .str ⟨#[]⟩, .nils]]])) (v := .ptr Hq.length 0 0) (env' := _) rfl rfl (show _ = (0, 1) by kernel_rfl) rfl rfl (fun _ _ h => h) (g_alloc zr93b rfl rfl) rfl (w61 rfl ?_)
  refine e_eff (H0 := (Hq ++ [VO.arr 93 10 [[.int .i64 0, .int .i64 0, .int .i64 0, .int .i64 0, .nils, .nils, .int .i64 0, .int .i64 0, .str ⟨#[]⟩, .nils]]])) (H1 := (Hq ++ [VO.arr 93 10 [[.int .i64 0, .int .i64 0, .int .i64 0, .int .i64 0, .nils, .nils, .int .i64 0, .int .i64 0, .str ⟨#[]⟩, .nils]]] ++ [VO.arr 5 1 (lrows c.bef)])) (v := .row false (Hq.length + 1) 0 (lrows c.bef).length) (env' := _) rfl rfl (show _ = (1, 2) by kernel_rfl) rfl rfl (fun _ _ h => h) (appR_new (H := (Hq ++ [VO.arr 93 10 [[.int .i64 0, .int .i64 0, .int .i64 0, .int .i64 0, .nils, .nils, .int .i64 0, .int .i64 0, .str ⟨#[]⟩, .nils]]])) (by simp) el68 Tryz.underlying68 rfl zc5 by5 rfl (by decide) (by decide) (isL_str hc.bef.1) (srcL hc.bef.1) (byt_len hc.bef) hbe (by omega)) rfl (w61 rfl ?_)
  refine e_op (v := .ptr l 0 0) (env' := _) rfl (by decide) (show _ = (0, 2) by kernel_rfl) (by decide) (fun _ _ h => h) (fun q h1 h2 => rfl) rfl (w61 rfl ?_)
  iterate 2 refine e_op (env' := _) rfl (by decide) (show _ = (0, 2) by kernel_rfl) (by decide) (fun _ _ h => h) (fun q h1 h2 => rfl) rfl (w61 rfl ?_)
  refine e_op (v := .row false L 0 (s.unit k).left.length) (env' := _) rfl (by decide) (show _ = (0, 2) by kernel_rfl) (by decide) (fun _ _ h => h) (fun q h1 h2 => (match q, h1, h2 with | 0, _, _ => (by first | exact g_load huq rfl rfl | exact g_load (get_app huq) rfl rfl | exact g_load (get_app (get_app huq)) rfl rfl) | 1, _, _ => (by first | exact g_load huq rfl rfl | exact g_load (get_app huq) rfl rfl | exact g_load (get_app (get_app huq)) rfl rfl) | 2, _, _ => (by first | exact g_load huq rfl rfl | exact g_load (get_app huq) rfl rfl | exact g_load (get_app (get_app huq)) rfl rfl) | q + 3, _, h2 => absurd h2 (by omega))) rfl (w61 rfl ?_)
  refine e_op (env' := _) rfl (by decide) (show _ = (0, 2) by kernel_rfl) (by decide) (fun _ _ h => h) (fun q h1 h2 => rfl) rfl (w61 rfl ?_)
  refine e_op (v := .int .i64 (((s.unit k).left.length : Int) - 1)) (env' := _) rfl (by decide) (show _ = (0, 2) by kernel_rfl) (by decide) (fun _ _ h => h) (fun q h1 h2 => (match q, h1, h2 with | 0, _, _ => int_eq (i64_small (by omega) (by omega)) | 1, _, _ => int_eq (i64_small (by omega) (by omega)) | 2, _, _ => int_eq (i64_small (by omega) (by omega)) | q + 3, _, h2 => absurd h2 (by omega))) rfl (w61 rfl ?_)
  refine e_op (v := .ptr L (((s.unit k).left.length : Int) - 1).toNat 0) (env' := _) rfl (by decide) (show _ = (0, 2) by kernel_rfl) (by decide) (fun _ _ h => h) (fun q h1 h2 => (match q, h1, h2 with | 0, _, _ => (by first | exact g_index0 el35 hLq (by omega) (by omega) | exact g_index0 el35 (get_app hLq) (by omega) (by omega) | exact g_index0 el35 (get_app (get_app hLq)) (by omega) (by omega)) | 1, _, _ => (by first | exact g_index0 el35 hLq (by omega) (by omega) | exact g_index0 el35 (get_app hLq) (by omega) (by omega) | exact g_index0 el35 (get_app (get_app hLq)) (by omega) (by omega)) | 2, _, _ => (by first | exact g_index0 el35 hLq (by omega) (by omega) | exact g_index0 el35 (get_app hLq) (by omega) (by omega) | exact g_index0 el35 (get_app (get_app hLq)) (by omega) (by omega)) | q + 3, _, h2 => absurd h2 (by omega))) rfl (w61 rfl ?_)
  refine e_op (v := .int .i64 b) (env' := _) rfl (by decide) (show _ = (0, 2) by kernel_rfl) (by decide) (fun _ _ h => h) (fun q h1 h2 => (match q, h1, h2 with | 0, _, _ => (by first | exact g_load hLq hL2 rfl | exact g_load (get_app hLq) hL2 rfl | exact g_load (get_app (get_app hLq)) hL2 rfl) | 1, _, _ => (by first | exact g_load hLq hL2 rfl | exact g_load (get_app hLq) hL2 rfl | exact g_load (get_app (get_app hLq)) hL2 rfl) | 2, _, _ => (by first | exact g_load hLq hL2 rfl | exact g_load (get_app hLq) hL2 rfl | exact g_load (get_app (get_app hLq)) hL2 rfl) | q + 3, _, h2 => absurd h2 (by omega))) rfl (w61 rfl ?_)
  refine e_op (v := .agg [_, _, _, _, _, _, _, _, _, _]) (env' := _) rfl (by decide) (show _ = (2, 2) by kernel_rfl) (by decide) (fun _ _ h => h) (fun q h1 h2 => rfl) rfl (w61 rfl ?_)
  refine e_eff0 (H0 := (Hq ++ [VO.arr 93 10 [[.int .i64 0, .int .i64 0, .int .i64 0, .int .i64 0, .nils, .nils, .int .i64 0, .int .i64 0, .str ⟨#[]⟩, .nils]]] ++ [VO.arr 5 1 (lrows c.bef)])) (H1 := ((Hq ++ [VO.arr 93 10 [[.int .i64 0, .int .i64 0, .int .i64 0, .int .i64 0, .nils, .nils, .int .i64 0, .int .i64 0, .str ⟨#[]⟩, .nils]]] ++ [VO.arr 5 1 (lrows c.bef)]).set Hq.length (VO.arr 93 10 [[.int .i64 2, .int .i64 k, .int .i64 c.page, .int .i64 c.pos, .nils, .row false (Hq.length + 1) 0 (lrows c.bef).length, .int .i64 b, .int .i64 0, .str ⟨#[]⟩, .nils]]))) rfl rfl (show _ = (2, 3) by kernel_rfl) rfl rfl (fun _ _ h => h) (g_store (i := 0) (k := 0) (x := .agg [.int .i64 2, .int .i64 k, .int .i64 c.page, .int .i64 c.pos, .nils, .row false (Hq.length + 1) 0 (lrows c.bef).length, .int .i64 b, .int .i64 0, .str ⟨#[]⟩, .nils]) (cs := [.int .i64 2, .int .i64 k, .int .i64 c.page, .int .i64 c.pos, .nils, .row false (Hq.length + 1) 0 (lrows c.bef).length, .int .i64 b, .int .i64 0, .str ⟨#[]⟩, .nils]) (rows := [[.int .i64 0, .int .i64 0, .int .i64 0, .int .i64 0, .nils, .nils, .int .i64 0, .int .i64 0, .str ⟨#[]⟩, .nils]]) (get_app (get_last (H := Hq))) rfl rfl sz93 ⟨rfl, by simp, by decide⟩) ?_
  refine e_end (H' := ((Hq ++ [VO.arr 93 10 [[.int .i64 0, .int .i64 0, .int .i64 0, .int .i64 0, .nils, .nils, .int .i64 0, .int .i64 0, .str ⟨#[]⟩, .nils]]] ++ [VO.arr 5 1 (lrows c.bef)]).set Hq.length (VO.arr 93 10 [[.int .i64 2, .int .i64 k, .int .i64 c.page, .int .i64 c.pos, .nils, .row false (Hq.length + 1) 0 (lrows c.bef).length, .int .i64 b, .int .i64 0, .str ⟨#[]⟩, .nils]]))) rfl ?_
  refine hM3 ⟨(_, _, _), ui_b hql hqp hq4⟩ _ _ (by simp; omega) rfl ?_
  repeat' first | exact trivial | refine ⟨.inr rfl, ?_⟩ | refine ⟨.inl rfl, ?_⟩ | refine ⟨.inl ?_, ?_⟩ | fail
 rintro ⟨⟨Hz, tz, af⟩, hI⟩ hnb3
 refine vc_norm (env' := (_ :: _ :: _ :: _ :: _ :: _ :: _ :: (.ptr tz 0 0) :: _ :: _ :: _ :: _ :: _ :: _ :: _ :: _ :: _ :: _ :: _ :: _ :: _ :: _ :: _ :: _ :: _ :: _ :: _ :: _ :: _ :: _ :: _ :: _ :: _ :: _ :: _ :: _ :: _ :: _ :: _ :: _ :: _ :: _ :: _ :: _ :: _ :: _ :: _ :: _ :: _ :: _ :: _ :: _ :: _ :: _ :: _ :: _ :: _ :: _ :: _ :: _ :: _ :: [])) (H' := Hz) rfl rfl ?_
 replace hI : UI H c k b Hz tz af := hI
 have huz := (hI.pre _ hlh).trans hu.obj
 have hLz := (hI.pre _ hLh).trans hL1
 refine vs (vs (wr ?_))
 iterate 2 refine wN rfl rfl rfl (v61 rfl ?_)
 refine we rfl ?_
 refine vc_cond rfl (fun hc50 => ?_) (fun hc50 => ?_)
 ·
  have h2 : 2 ≤ (s.unit k).left.length := by have := of_decide_eq_true hc50; omega
  obtain ⟨q2, hq2⟩ : ∃ q, (s.unit k).left[(s.unit k).left.length - 2]? = some q := ⟨_, List.getElem?_eq_getElem (by omega)⟩
  have hnx : (s.unit k).left.dropLast.getLast?.getD 0 = q2 := by rw [show (s.unit k).left.dropLast.getLast? = some q2 by rw [List.getLast?_eq_getElem?, List.getElem?_dropLast]; simp; exact ⟨by omega, by rw [Nat.sub_sub]; exact hq2⟩]; rfl
  have hL3 := left_row (n := 2) hu hL1 hq2 h2 (by decide)
  refine wr ?_
  refine wN (v := .ptr l 0 0) rfl rfl rfl (v61 rfl ?_)
  iterate 2 refine wN rfl rfl rfl (v61 rfl ?_)
  refine wN (v := .row false L 0 (s.unit k).left.length) rfl (g_load huz rfl rfl) rfl (v61 rfl ?_)
  refine wN rfl rfl rfl (v61 rfl ?_)
  refine wN (v := .int .i64 (((s.unit k).left.length : Int) - 2)) rfl (int_eq (i64_small (by omega) (by omega))) rfl (v61 rfl ?_)
  refine wN (v := .ptr L (((s.unit k).left.length : Int) - 2).toNat 0) rfl (g_index0 el35 hLz (by omega) (by omega)) rfl (v61 rfl ?_)
  refine wN (v := .int .i64 q2) rfl (g_load hLz hL3 rfl) rfl (v61 rfl ?_)
  refine wN (v := .ptr tz 0 7) rfl rfl rfl (v61 rfl ?_)
  refine w_op0N (H2 := (Hz.set tz (VO.arr 93 10 [[.int .i64 2, .int .i64 k, .int .i64 c.page, .int .i64 c.pos, .nils, af, .int .i64 b, .int .i64 q2, .str ⟨#[]⟩, .nils]]))) rfl (g_store hI.obj rfl rfl sz3 ⟨rfl, by simp, by decide⟩) (rfl) (fun _ h => h) ?_
  refine we rfl (vs (wr ?_))
  refine wN (v := .agg [.int .i64 2, .int .i64 k, .int .i64 c.page, .int .i64 c.pos, .nils, af, .int .i64 b, .int .i64 q2, .str ⟨#[]⟩, .nils]) rfl (g_load (get_self hI.obj) rfl rfl) rfl (v61 rfl ?_)
  refine w_op0N (H2 := ((Hz.set tz (VO.arr 93 10 [[.int .i64 2, .int .i64 k, .int .i64 c.page, .int .i64 c.pos, .nils, af, .int .i64 b, .int .i64 q2, .str ⟨#[]⟩, .nils]])).set H.length (VO.arr 93 10 [[.int .i64 2, .int .i64 k, .int .i64 c.page, .int .i64 c.pos, .nils, af, .int .i64 b, .int .i64 q2, .str ⟨#[]⟩, .nils]]))) rfl (g_store (get_set hI.r4 (by have := hI.low; omega)) rfl rfl sz93 ⟨rfl, by simp, by decide⟩) (rfl) (fun _ h => h) ?_
  refine we rfl (vc_ret ?_)
  refine r_fn (vres_cell rfl rfl (g_vload (get_self (get_set hI.r4 (by have := hI.low; omega))) rfl rfl)) ?_
  refine ⟨_, af, split_at (fun x hx => ?_) ?_, by rw [hnx]; rfl, hI.rows _ _⟩
  · rw [List.getElem?_set_ne (by omega), List.getElem?_set_ne (by have := hI.low; omega)]; exact hI.pre x hx
  have := lt_of hI.r4; simp; omega
 have hnx : (s.unit k).left.dropLast.getLast?.getD 0 = 0 := by rw [List.getLast?_eq_none_iff.2 (List.length_eq_zero_iff.1 (by have := of_decide_eq_false hc50; simp; omega))]; rfl
 refine vc_skip (n_then (vs (wr ?_)))
 refine wN (v := .agg [.int .i64 2, .int .i64 k, .int .i64 c.page, .int .i64 c.pos, .nils, af, .int .i64 b, .int .i64 0, .str ⟨#[]⟩, .nils]) rfl (g_load hI.obj rfl rfl) rfl (v61 rfl ?_)
 refine w_op0N (H2 := (Hz.set H.length (VO.arr 93 10 [[.int .i64 2, .int .i64 k, .int .i64 c.page, .int .i64 c.pos, .nils, af, .int .i64 b, .int .i64 0, .str ⟨#[]⟩, .nils]]))) rfl (g_store hI.r4 rfl rfl sz93 ⟨rfl, by simp, by decide⟩) (rfl) (fun _ h => h) ?_
 refine we rfl (vc_ret ?_)
 refine r_fn (vres_cell rfl rfl (g_vload (get_self hI.r4) rfl rfl)) ?_
 refine ⟨_, af, split_at (fun x hx => ?_) ?_, by rw [hnx]; rfl, ?_⟩
 · rw [List.getElem?_set_ne (by omega)]; exact hI.pre x hx
 · have := lt_of hI.r4; simp; omega
 have := hI.rows (VO.arr 93 10 [[.int .i64 2, .int .i64 k, .int .i64 c.page, .int .i64 c.pos, .nils, af, .int .i64 b, .int .i64 0, .str ⟨#[]⟩, .nils]]) (VO.arr 93 10 [[.int .i64 2, .int .i64 k, .int .i64 c.page, .int .i64 c.pos, .nils, af, .int .i64 b, .int .i64 0, .str ⟨#[]⟩, .nils]])
 rwa [show Hz.set tz (VO.arr 93 10 [[.int .i64 2, .int .i64 k, .int .i64 c.page, .int .i64 c.pos, .nils, af, .int .i64 b, .int .i64 0, .str ⟨#[]⟩, .nils]]) = Hz from set_same2 hI.obj] at this
end Go.Vi
