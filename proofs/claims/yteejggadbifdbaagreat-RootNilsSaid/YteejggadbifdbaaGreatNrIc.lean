/- slices.Insert of one element, known. -/
import Derived.Test.YteejggadbifdbaaGreatNrI
import Derived.Test.YteejggadbifdbaaGreatNrP
set_option autoImplicit false
set_option linter.unusedVariables false
set_option linter.unusedSimpArgs false
set_option maxRecDepth 100000
namespace Go.Vi
open Go Go.Proofs Go.RowKit Go.Shelf
/-- An object whose place is taken by a new one: in its block, or in a block that has come since. -/
theorem To.become {c : Cx} {H : Hp} (s : Sim c H) {l : Nat} {cl cl' : CL} (hlive : live H l) (hρ : c.ρ l = some cl) (hI : ¬ c.I cl.blk) (hB : ¬ c.B cl.blk) (o : VO) {w' : World} (hsize : c.w.heap.size ≤ w'.heap.size)
    (hos : w'.os = c.w.os) (htape : w'.tape = c.w.tape) (hout : w'.output = c.w.output) (hW : ∀ b, b < c.w.heap.size → b ≠ cl.blk → w'.heap[b]? = c.w.heap[b]?) (hcl : cl'.blk = cl.blk ∨ c.w.heap.size ≤ cl'.blk)
    (ho : ∀ c' : Cx, Mono c c' → c'.w = w' → c'.ρ H.length = some cl' → ¬ c'.I cl'.blk → ¬ c'.B cl'.blk → ObjAt c' H.length o) :
    To c H { c with w := w', ρ := updρ c.ρ H.length cl' } (H.set l .dead ++ [o]) := by
  have hl : l < H.length := by obtain ⟨o', h, _⟩ := hlive; exact (List.getElem?_eq_some_iff.1 h).1
  have hblk : cl.blk < c.w.heap.size := s.lt hlive hρ
  have hI' : ¬ c.I cl'.blk := fun h => by rcases hcl with e | e; · rw [e] at h; exact hI h
                                          · have := s.bound _ h; omega
  have hB' : ¬ c.B cl'.blk := fun h => by rcases hcl with e | e; · rw [e] at h; exact hB h
                                          · have := s.boundB _ h; omega
  have hρl : ∀ k, k < H.length → updρ c.ρ H.length cl' k = c.ρ k := fun k h => by simp [updρ]; omega
  have m : Mono c { c with w := w', ρ := updρ c.ρ H.length cl' } := by
    refine ⟨fun _ h => h, fun _ h => h, fun k cl1 h => ?_, fun b h => ?_⟩
    · have : k ≠ H.length := fun e => by rw [e, s.fresh _ (Nat.le_refl _)] at h; cases h
      simp [updρ, this, h]
    · refine hW b (h.elim (s.bound b) (s.boundB b)) fun e => ?_
      subst e
      exact h.elim hI hB
  have get : ∀ k, k < H.length → (H.set l .dead ++ [o])[k]? = if k = l then some .dead else H[k]? := fun k hk => by
    rw [List.getElem?_append_left (by simpa using hk), List.getElem?_set]
    by_cases e : l = k
    · rw [if_pos e, if_pos e.symm, if_pos hl]
    · rw [if_neg e, if_neg (fun h => e h.symm)]
  have lv : ∀ k, k < H.length → live (H.set l .dead ++ [o]) k → live H k ∧ k ≠ l := fun k hk ⟨o', h1, h2⟩ => by
    rw [get k hk] at h1
    by_cases e : k = l
    · rw [if_pos e] at h1; cases h1; cases h2
    · rw [if_neg e] at h1; exact ⟨⟨o', h1, h2⟩, e⟩
  have last : ∀ k, ¬ k < H.length → ∀ o', (H.set l .dead ++ [o])[k]? = some o' → k = H.length ∧ o' = o := fun k hk o' h => by
    have e : k = H.length := by
      have := (List.getElem?_eq_some_iff.1 h).1
      simp at this
      omega
    subst e
    rw [List.getElem?_append_right (by simp)] at h
    simp at h
    exact ⟨rfl, h.symm⟩
  refine ⟨⟨m, hsize, fun b hlt hno => hW b hlt fun e => hno ⟨l, cl, hlive, hρ, e.symm⟩, fun _ h => .inl h, fun _ => Iff.rfl, fun k cl1 h => ?_, hos, htape, hout⟩, ⟨fun b h => ?_, fun b h => ?_, fun k o' h => ?_, fun k k' cl1 cl2 h1 h2 h3 h4 h5 => ?_, fun k h => ?_⟩, by simp, fun k hk h => (lv k hk h).1⟩
  · by_cases e : k = H.length
    · subst e
      simp [updρ] at h
      subst h
      rcases hcl with e | e
      · exact .inr (.inr ⟨l, cl, hlive, hρ, e.symm⟩)
      · exact .inr (.inl e)
    · simp [updρ, e] at h
      exact .inl h
  · have := s.bound b h; show b < w'.heap.size; omega
  · have := s.boundB b h; show b < w'.heap.size; omega
  · by_cases hk : k < H.length
    · rw [get k hk] at h
      by_cases e : k = l
      · rw [if_pos e] at h; cases h; trivial
      · rw [if_neg e] at h
        refine (s.obj k o' h).keep m (fun _ _ _ h => h) (fun _ h => h) (fun cl1 hr hv => hW _ (s.lt (live_of h hv) hr) fun e2 => e (s.inj k l cl1 cl (live_of h hv) hlive hr hρ e2))
    · obtain ⟨rfl, rfl⟩ := last k hk o' h
      exact ho _ m rfl (by simp [updρ]) hI' hB'
  · have old : ∀ k cl1, k < H.length → live (H.set l .dead ++ [o]) k → updρ c.ρ H.length cl' k = some cl1 → live H k ∧ c.ρ k = some cl1 ∧ cl1.blk < c.w.heap.size ∧ cl1.blk ≠ cl.blk := fun k cl1 hk hv hr => by
      rw [hρl k hk] at hr
      obtain ⟨a, b⟩ := lv k hk hv
      exact ⟨a, hr, s.lt a hr, fun e => b (s.inj k l cl1 cl a hlive hr hρ e)⟩
    have new : ∀ k cl1, ¬ k < H.length → live (H.set l .dead ++ [o]) k → updρ c.ρ H.length cl' k = some cl1 → k = H.length ∧ cl1 = cl' := fun k cl1 hk ⟨o', hv, _⟩ hr => by
      obtain ⟨rfl, _⟩ := last k hk o' hv
      simp [updρ] at hr
      exact ⟨rfl, hr.symm⟩
    by_cases hk : k < H.length <;> by_cases hk' : k' < H.length
    · obtain ⟨a1, a2, _, _⟩ := old k cl1 hk h1 h3
      obtain ⟨b1, b2, _, _⟩ := old k' cl2 hk' h2 h4
      exact s.inj k k' cl1 cl2 a1 b1 a2 b2 h5
    · obtain ⟨_, _, a3, a4⟩ := old k cl1 hk h1 h3
      obtain ⟨_, rfl⟩ := new k' cl2 hk' h2 h4
      rcases hcl with e | e
      · exact absurd (h5.trans e) a4
      · omega
    · obtain ⟨_, _, a3, a4⟩ := old k' cl2 hk' h2 h4
      obtain ⟨_, rfl⟩ := new k cl1 hk h1 h3
      rcases hcl with e | e
      · exact absurd (h5.symm.trans e) a4
      · omega
    · rw [(new k cl1 hk h1 h3).1, (new k' cl2 hk' h2 h4).1]
  · simp at h
    have e : k ≠ H.length := by omega
    simp [updρ, e]
    exact s.fresh k (by omega)
theorem Bw_setCell_at {W : World} {g o : Nat} {cur : Array Value} {e : TypeId} {fz : Nat × Nat} (v : Value) (h : W.heap[g]? = some (.cells cur e fz)) : (W.setCell ⟨g, o, none⟩ v).heap[g]? = some (.cells (cur.setIfInBounds o v) e fz) := by
  simp only [World.setCell, Array.getElem?_modify, h]; rfl
/-! ### Cells of rows -/
theorem RowsAt.flat {c : Cx} {cells : Array Value} {base sz i n : Nat} {rows : List (List AV)} (h : RowsAt c cells base sz rows) (hn : i + n ≤ rows.length) (hs : base + (i + n) * sz ≤ cells.size) :
    FlatRows c ((cells.toList.drop (base + i * sz)).take (n * sz)) sz ((rows.drop i).take n) := by
  have e1 : (i + n) * sz = i * sz + n * sz := Nat.add_mul ..
  refine ⟨?_, fun k r hr => ?_⟩
  · rw [List.length_take, List.length_drop, List.length_take, List.length_drop, Array.length_toList, Nat.min_eq_left (by omega), Nat.min_eq_left (by omega)]
  · rw [List.getElem?_take] at hr
    split at hr
    · rename_i hk
      rw [List.getElem?_drop] at hr
      obtain ⟨g1, g2⟩ := h (i + k) r hr
      refine ⟨g1, fun j x hx => ?_⟩
      obtain ⟨V, v1, v2, v3⟩ := g2 j x hx
      refine ⟨V, ?_, v2, v3⟩
      have hj : j < sz := by rw [← g1]; exact (List.getElem?_eq_some_iff.1 hx).1
      rw [List.getElem?_take, if_pos (mul_lt_row hk hj), List.getElem?_drop, Array.getElem?_toList, ← v1, Nat.add_mul]
      congr 1
      omega
    · cases hr
theorem FlatRows.drop {c : Cx} {vs : List Value} {sz m : Nat} {rows : List (List AV)} (h : FlatRows c vs sz rows) : FlatRows c (vs.drop (m * sz)) sz (rows.drop m) := by
  refine ⟨by rw [List.length_drop, List.length_drop, h.1, Nat.sub_mul], fun k r hr => ?_⟩
  rw [List.getElem?_drop] at hr
  obtain ⟨g1, g2⟩ := h.2 (m + k) r hr
  refine ⟨g1, fun j x hx => ?_⟩
  obtain ⟨V, v1, v2, v3⟩ := g2 j x hx
  refine ⟨V, ?_, v2, v3⟩
  rw [List.getElem?_drop, ← v1, Nat.add_mul]
  congr 1
  omega
theorem FlatRows.laid {c : Cx} {vs : List Value} {sz o : Nat} {rows : List (List AV)} {cells : Array Value} (h : FlatRows c vs sz rows) (hc : ∀ (q : Nat) (v : Value), vs[q]? = some v → cells[o + q]? = some v) : RowsAt c cells o sz rows := fun k r hr => by
  obtain ⟨g1, g2⟩ := h.2 k r hr
  refine ⟨g1, fun j x hx => ?_⟩
  obtain ⟨V, v1, v2, v3⟩ := g2 j x hx
  exact ⟨V, by rw [Nat.add_assoc]; exact hc _ V v1, v2, v3⟩
/-- Cells written, block by block. -/
theorem setCells_heap {g : Nat} {T : TypeId} {fz : Nat × Nat} : ∀ (vs : List Value) (o : Nat) (W : World) (cur : Array Value), W.heap[g]? = some (.cells cur T fz) → o + vs.length ≤ cur.size →
    ∃ cur', (W.setCells g o vs).heap[g]? = some (.cells cur' T fz) ∧ cur'.size = cur.size ∧ (∀ k, k < o ∨ o + vs.length ≤ k → cur'[k]? = cur[k]?) ∧ (∀ (j : Nat) (v : Value), vs[j]? = some v → cur'[o + j]? = some v)
  | [], o, W, cur, h, hs => ⟨cur, h, rfl, fun _ _ => rfl, fun j v hj => by cases hj⟩
  | v :: r, o, W, cur, h, hs => by
    have h1 := Bw_setCell_at (o := o) v h
    obtain ⟨cur', a1, a2, a3, a4⟩ := setCells_heap r (o + 1) _ _ h1 (by simp at hs ⊢; omega)
    simp only [List.length_cons] at hs
    refine ⟨cur', a1, by simpa using a2, fun k hk => ?_, fun j u hj => ?_⟩
    · rw [a3 k (by simp at hk; omega), Array.getElem?_setIfInBounds, if_neg (by simp at hk; omega)]
    · cases j with
      | zero =>
        cases hj
        rw [Nat.add_zero, a3 o (by omega), Array.getElem?_setIfInBounds, if_pos rfl, if_pos (by omega)]
      | succ j => rw [show o + (j + 1) = o + 1 + j by omega]; exact a4 j u hj
theorem setCells_other {g : Nat} : ∀ (vs : List Value) (o : Nat) (W : World) (b : Nat), b ≠ g → (W.setCells g o vs).heap[b]? = W.heap[b]?
  | [], o, W, b, h => rfl
  | v :: r, o, W, b, h => by
    have e : (W.setCells g o (v :: r)) = (W.setCell ⟨g, o, none⟩ v).setCells g (o + 1) r := rfl
    rw [e, setCells_other r (o + 1) _ b h]
    simp only [World.setCell, Array.getElem?_modify]
    rw [if_neg (Ne.symm h)]
theorem setCells_rest (g : Nat) : ∀ (vs : List Value) (o : Nat) (W : World), (W.setCells g o vs).heap.size = W.heap.size ∧ (W.setCells g o vs).os = W.os ∧ (W.setCells g o vs).tape = W.tape ∧ (W.setCells g o vs).output = W.output
  | [], o, W => ⟨rfl, rfl, rfl, rfl⟩
  | v :: r, o, W => by
    obtain ⟨a, b, d, e⟩ := setCells_rest g r (o + 1) (W.setCell ⟨g, o, none⟩ v)
    exact ⟨a.trans (by simp [World.setCell]), b, d, e⟩
/-! ### Insert -/
def insK (T : TypeId) (xs : List AV) (H : Hp) : Option (AV × Hp) := match xs with
  | [.row _ l i n, .int .i64 a, .row _ l2 i2 1] => match H[l]?, H[l2]? with
    | some (.arr T1 2 rows), some (.arr _ 2 rows2) => match rows2[i2]? with
      | some r2 => if (T1 == T && l != l2 && decide (0 ≤ a) && decide (a.toNat < n) && decide (i + n ≤ rows.length) && decide (n ≤ 1000000)) = true then
          some (.row false H.length 0 (n + 1), H.set l .dead ++ [.arr T 2 (((rows.drop i).take n).take a.toNat ++ ([r2] ++ ((rows.drop i).take n).drop a.toNat))]) else none
      | none => none
    | _, _ => none
  | _ => none
theorem ins_ok (G : Glob) (xs : List AV) (H : Hp) (r : AV) (H' : Hp) (h : insK 187 xs H = some (r, H')) : XS Tryz.prog G 298 xs H fun r1 H1 => r1 = r ∧ H1 = H' := by
  unfold insK at h
  split at h
  case h_2 => cases h
  rename_i t l i n a t2 l2 i2
  split at h
  case h_2 => cases h
  rename_i T1 rows T2 rows2 hl hl2
  split at h
  case h_2 => cases h
  rename_i r2 hr2
  split at h
  case isFalse => cases h
  rename_i hc
  simp only [Bool.and_eq_true, beq_iff_eq, bne_iff_ne, ne_eq, decide_eq_true_eq] at hc
  obtain ⟨⟨⟨⟨⟨rfl, hne⟩, ha0⟩, han⟩, hin⟩, hn6⟩ := hc
  cases h
  obtain ⟨k, rfl⟩ : ∃ k : Nat, a = (k : Int) := ⟨a.toNat, by omega⟩
  simp only [Int.toNat_natCast] at han ⊢
  intro c Vs s hg hlen hr
  match Vs, hlen with
  | [V0, V1, V2], _ =>
    have r0 := hr 0 _ V0 rfl rfl
    have r1 := hr 1 _ V1 rfl rfl
    have r3 := hr 2 _ V2 rfl rfl
    cases r1
    cases r0 with
    | row _ _ _ _ cl o cap hρ ho hcap ht hlim =>
      cases r3 with
      | row _ _ _ _ cl2 o2 cap2 hρ2 ho2 hcap2 ht2 hlim2 =>
        obtain ⟨cl0, cells, e1, e2, e3, e4, e5, e6, e7⟩ := s.obj l _ hl
        rw [hρ] at e1
        cases e1
        obtain ⟨cl0, cells2, f1, f2, f3, f4, f5, f6, f7⟩ := s.obj l2 _ hl2
        rw [hρ2] at f1
        cases f1
        have hlv : live H l := ⟨_, hl, rfl⟩
        have hlv2 : live H l2 := ⟨_, hl2, rfl⟩
        have hbb : cl2.blk ≠ cl.blk := fun e => hne (s.inj l l2 cl cl2 hlv hlv2 hρ hρ2 e.symm)
        rw [e2] at ho hlim
        rw [f2] at ho2 hlim2
        have hi2 : i2 < rows2.length := (List.getElem?_eq_some_iff.1 hr2).1
        -- the cells
        have hF := e7.flat (i := i) (n := n) hin (by omega)
        have hF2 := f7.flat (i := i2) (n := 1) (by omega) (by omega)
        rw [← ho] at hF
        rw [← ho2] at hF2
        have hd2 : (rows2.drop i2).take 1 = [r2] := by
          rw [List.take_one, List.head?_drop, hr2]; rfl
        rw [hd2] at hF2
        generalize hcs : (cells.toList.drop o).take (n * 2) = cs at hF
        generalize hvs : (cells2.toList.drop o2).take (1 * 2) = vs at hF2
        generalize hold : (rows.drop i).take n = old at hF ⊢
        have hol : old.length = n := by rw [← hold, List.length_take, List.length_drop]; omega
        have hcl : cs.length = n * 2 := by rw [hF.1, hol]
        have hvl : vs.length = 2 := hF2.1
        have csat : ∀ (j : Nat) (v : Value), cs[j]? = some v → cells[o + j]? = some v := fun j v hj => by
          rw [← hcs, List.getElem?_take] at hj
          split at hj
          · rwa [List.getElem?_drop, Array.getElem?_toList] at hj
          · cases hj
        have vsat : ∀ (j : Nat) (v : Value), vs[j]? = some v → cells2[o2 + j]? = some v := fun j v hj => by
          rw [← hvs, List.getElem?_take] at hj
          split at hj
          · rwa [List.getElem?_drop, Array.getElem?_toList] at hj
          · cases hj
        have hcsw : ∀ (j : Nat) (v : Value), cs[j]? = some v → c.w.cell? ⟨cl.blk, o + j, none⟩ = some v := fun j v hj => by rw [cell_at e3]; exact csat j v hj
        have hvsw : ∀ (j : Nat) (v : Value), vs[j]? = some v → c.w.cell? ⟨cl2.blk, o2 + j, none⟩ = some v := fun j v hj => by rw [cell_at f3]; exact vsat j v hj
        have one1 := hF.one (by decide)
        have one2 := hF2.one (by decide)
        have hnew : FlatRows c (cs.take (k * 2) ++ (vs ++ cs.drop (k * 2))) 2 (old.take k ++ ([r2] ++ old.drop k)) := (hF.take (m := k) (by omega)).append (hF2.append hF.drop)
        have fin : ∀ (w' : World) (cl' : CL) (cells' : Array Value) (cap' : Nat), cl'.sz = 2 → cl'.base + cap' * 2 = cl'.lim → n + 1 ≤ cap' → cells'.size = cl'.lim → w'.heap[cl'.blk]? = some (.cells cells' 187 (0, 0)) → c.w.heap.size ≤ w'.heap.size →
            w'.os = c.w.os → w'.tape = c.w.tape → w'.output = c.w.output → (∀ b, b < c.w.heap.size → b ≠ cl.blk → w'.heap[b]? = c.w.heap[b]?) → (cl'.blk = cl.blk ∨ c.w.heap.size ≤ cl'.blk) →
            (∀ (q : Nat) (v : Value), (cs.take (k * 2) ++ (vs ++ cs.drop (k * 2)))[q]? = some v → cells'[cl'.base + q]? = some v) →
            ∃ r1 H1 c' V, Ending.returned (.slice (some ⟨cl'.blk, cl'.base, none⟩) (n + 1) cap') = .returned V ∧ w' = c'.w ∧ To c H c' H1 ∧ Rel c' r1 V ∧ r1 = .row false H.length 0 (n + 1) ∧ H1 = H.set l .dead ++ [.arr 187 2 (old.take k ++ ([r2] ++ old.drop k))] := by
          intro w' cl' cells' cap' q1 q2 q3 q4 q5 q6 q7 q8 q9 q10 q11 q12
          have t := To.become s (cl' := cl') hlv hρ e5 e6 (.arr 187 2 (old.take k ++ ([r2] ++ old.drop k))) q6 q7 q8 q9 q10 q11 (fun c' m hw hρ' hI hB =>
            ⟨cl', cells', hρ', q1, by rw [hw]; exact q5, q4, hI, hB, (hnew.mono m).laid q12⟩)
          refine ⟨_, _, _, _, rfl, rfl, t, ?_, rfl, rfl⟩
          have := Rel.row (c := { c with w := w', ρ := updρ c.ρ H.length cl' }) false H.length 0 (n + 1) cl' (cl'.base + 0 * cl'.sz) cap' (updρ_self _ _ _) rfl q3 (fun h => by cases h) (by rw [q1]; omega)
          simpa using this
        have cellNew : ∀ (cells' : Array Value) (o' : Nat), (∀ (j : Nat) (v : Value), (cs.take (k * 2))[j]? = some v → cells'[o' + j]? = some v) → (∀ (j : Nat) (v : Value), vs[j]? = some v → cells'[o' + k * 2 + j]? = some v) →
            (∀ (j : Nat) (v : Value), (cs.drop (k * 2))[j]? = some v → cells'[o' + (k + 1) * 2 + j]? = some v) → ∀ (q : Nat) (v : Value), (cs.take (k * 2) ++ (vs ++ cs.drop (k * 2)))[q]? = some v → cells'[o' + q]? = some v := by
          intro cells' o' h1 h2 h3 q v hq
          have hlt : (cs.take (k * 2)).length = k * 2 := by rw [List.length_take]; omega
          rw [List.getElem?_append] at hq
          split at hq
          · exact h1 q v hq
          · rename_i hge
            rw [hlt] at hge hq
            rw [List.getElem?_append] at hq
            split at hq
            · have := h2 _ v hq
              rw [← this]
              congr 1
              omega
            · rename_i hge2
              have := h3 _ v hq
              rw [hvl] at this hge2
              rw [← this]
              congr 1
              omega
        by_cases hroom : n + 1 ≤ cap
        · refine ((Bw.insE_room cl.blk o n cap k cl2.blk o2 cap2 cs vs c.w han hn6 hroom hbb hcl hvl hcsw (fun j hj => ?_) (fun j hj => ?_) hvsw one1 one2 T2 187 cells2.size cells.size ?_ ?_ (by omega) ?_ ?_)).mono ?_
          · rw [cell_at e3, Array.getElem?_eq_getElem (by omega)]; rfl
          · simp only [World.frozen?, e3]; simp
          · simp only [World.shape?, f3]
          · simp only [World.shape?, e3]
          · simp only [World.frozen?, f3]; simp
          · simp only [World.frozen?, f3]; simp
          · rintro e w' ⟨rfl, rfl⟩
            have hd : c.w.drew.heap[cl.blk]? = some (.cells cells 187 (0, 0)) := e3
            obtain ⟨cur1, a1, a2, a3, a4⟩ := setCells_heap (cs.drop (k * 2)) (o + (k + 1) * 2) c.w.drew cells hd (by rw [List.length_drop]; omega)
            obtain ⟨cur2, b1, b2, b3, b4⟩ := setCells_heap vs (o + k * 2) _ cur1 a1 (by omega)
            obtain ⟨g1, g2, g3, g4⟩ := setCells_rest cl.blk vs (o + k * 2) (c.w.drew.setCells cl.blk (o + (k + 1) * 2) (cs.drop (k * 2)))
            obtain ⟨g5, g6, g7, g8⟩ := setCells_rest cl.blk (cs.drop (k * 2)) (o + (k + 1) * 2) c.w.drew
            refine fin _ ⟨cl.blk, o, 2, cl.lim⟩ cur2 cap rfl hlim hroom (by rw [b2, a2]; exact e4) b1 (Nat.le_of_eq (by rw [g1, g5]; rfl)) (g2.trans g6) (g3.trans g7) (g4.trans g8) (fun b hb hne => ?_) (.inl rfl) ?_
            · rw [setCells_other _ _ _ _ hne, setCells_other _ _ _ _ hne]; rfl
            · refine cellNew cur2 o (fun j v hj => ?_) b4 (fun j v hj => ?_)
              · rw [List.getElem?_take] at hj
                split at hj
                · rename_i hjk
                  rw [b3 _ (by omega), a3 _ (by omega)]
                  exact csat j v hj
                · cases hj
              · have hjl := (List.getElem?_eq_some_iff.1 hj).1
                rw [b3 _ (by omega)]
                exact a4 j v hj
        · refine ((Bw.insE_grow cl.blk o n cap k cl2.blk o2 cap2 cs vs c.w han hcap (by omega) (by omega) hcl hvl hcsw hvsw one1 one2)).mono ?_
          rintro e w' ⟨rfl, rfl⟩
          generalize hG : grownCap c.w (n + 1) cap 187 = Gc
          have hGn : n + 1 ≤ Gc := by rw [← hG]; exact grownCap_ge c.w _ _ _
          generalize hROW : (cs.take (k * 2)).toArray ++ Builtin.zeroCells (Value.agg #[.slice none 0 0, .int .i64 0]).cells (n + 1 - k) ++ Builtin.zeroCells (Value.agg #[.slice none 0 0, .int .i64 0]).cells (Gc - (n + 1)) = ROW
          have hRs : ROW.size = Gc * 2 := by
            rw [← hROW]
            simp [Builtin.zeroCells, Value.cells]
            omega
          have hR0 : ∀ (j : Nat) (v : Value), (cs.take (k * 2))[j]? = some v → ROW[j]? = some v := fun j v hj => by
            have hjl := (List.getElem?_eq_some_iff.1 hj).1
            rw [← hROW, Array.append_assoc, Array.getElem?_append_left (by simpa using hjl)]
            simpa using hj
          have hd : ((c.w.alloc (.cells ROW 187)).drew).heap[c.w.heap.size]? = some (.cells ROW 187 (0, 0)) := World.alloc_heap_new c.w _
          obtain ⟨cur1, a1, a2, a3, a4⟩ := setCells_heap vs (k * 2) _ ROW hd (by omega)
          obtain ⟨cur2, b1, b2, b3, b4⟩ := setCells_heap (cs.drop (k * 2)) ((k + 1) * 2) _ cur1 (show ((c.w.alloc (.cells ROW 187)).drew.setCells c.w.heap.size (k * 2) vs).drew.heap[c.w.heap.size]? = _ from a1) (by rw [List.length_drop]; omega)
          obtain ⟨g1, g2, g3, g4⟩ := setCells_rest c.w.heap.size vs (k * 2) (c.w.alloc (.cells ROW 187)).drew
          obtain ⟨g5, g6, g7, g8⟩ := setCells_rest c.w.heap.size (cs.drop (k * 2)) ((k + 1) * 2) ((c.w.alloc (.cells ROW 187)).drew.setCells c.w.heap.size (k * 2) vs).drew
          have hsz : (c.w.alloc (.cells ROW 187)).heap.size = c.w.heap.size + 1 := by simp
          refine fin _ ⟨c.w.heap.size, 0, 2, Gc * 2⟩ cur2 Gc rfl (by simp) hGn (by rw [b2, a2]; exact hRs) b1 (by rw [g5]; show _ ≤ ((c.w.alloc (.cells ROW 187)).drew.setCells c.w.heap.size (k * 2) vs).heap.size; rw [g1]; show _ ≤ (c.w.alloc (.cells ROW 187)).heap.size; omega) (g6.trans g2) (g7.trans g3) (g8.trans g4) (fun b hb hne => ?_) (.inr (Nat.le_refl _)) ?_
          · rw [setCells_other _ _ _ _ (by omega)]
            show ((c.w.alloc (.cells ROW 187)).drew.setCells c.w.heap.size (k * 2) vs).heap[b]? = _
            rw [setCells_other _ _ _ _ (by omega)]
            exact Below.heap_alloc c.w _ b hb
          · refine cellNew cur2 0 (fun j v hj => ?_) (fun j v hj => ?_) (fun j v hj => ?_)
            · have hjl := (List.getElem?_eq_some_iff.1 hj).1
              rw [List.length_take] at hjl
              rw [Nat.zero_add, b3 _ (by omega), a3 _ (by omega)]
              exact hR0 j v hj
            · have hjl := (List.getElem?_eq_some_iff.1 hj).1
              rw [Nat.zero_add, b3 _ (by omega)]
              exact a4 j v hj
            · rw [Nat.zero_add]
              exact b4 j v hj
end Go.Vi
