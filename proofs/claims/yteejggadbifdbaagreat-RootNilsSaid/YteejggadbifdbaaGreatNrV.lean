/- Disk.there, as a known function. -/
import Derived.Test.YteejggadbifdbaaGreatNrU
import Derived.Test.YteejggadbifdbaaGreatViR
set_option autoImplicit false
set_option linter.unusedVariables false
set_option maxRecDepth 100000
namespace Go.Vi
open Go Go.Proofs Go.RowKit Go.Shelf
/-- Blocks that are new and of which nothing is known. -/
theorem To.belowS {c : Cx} {H : Hp} (s : Sim c H) {w' : World} (hB : Below c.w.heap.size c.w w') : To c H { c with w := w' } H := by
  have m : Mono c { c with w := w' } := ⟨fun _ h => h, fun _ h => h, fun _ _ h => h, fun b h => hB.block b (h.elim (s.bound b) (s.boundB b))⟩
  refine ⟨⟨m, hB.size, fun b hb _ => hB.block b hb, fun b h => .inl h, fun _ => Iff.rfl, fun _ _ h => .inl h, hB.os, hB.tape, hB.output⟩, ⟨fun b hb => ?_, fun b hb => ?_, fun l o h => ?_, s.inj, s.fresh⟩, Nat.le_refl _, fun _ _ h => h⟩
  · have := s.bound b hb; have := hB.size; show b < w'.heap.size; omega
  · have := s.boundB b hb; have := hB.size; show b < w'.heap.size; omega
  · exact (s.obj l o h).keep m (fun cl hr hv hi => hi) (fun _ h => h) (fun cl hr hv => hB.block _ (s.lt (live_of h hv) hr))
def slv : AV → Bool
  | .nils | .list .. | .row .. | .sub .. => true
  | _ => false
theorem slv_ok {c : Cx} {x : AV} {V : Value} (h : slv x = true) (hr : Rel c x V) : ∃ A N C, V = .slice A N C := by
  cases hr <;> first | exact ⟨_, _, _, rfl⟩ | cases h
def wrOk : List AV → Bool
  | [.int .i64 _, b] => slv b
  | _ => false
def findW (n : Int) : List (List AV) → Option AV
  | [] => none
  | r :: s => match findW n s with
    | some b => some b
    | none => match r with
      | (.int _ m) :: b :: _ => if m = n then some b else none
      | _ => none
theorem findW_none {n : Int} : ∀ {rows : List (List AV)} (hok : rows.all wrOk = true), (∀ (j : Nat) (b' : AV), rows[j]? ≠ some [AV.int .i64 n, b']) → findW n rows = none
  | [], _, _ => rfl
  | r :: s, hok, h => by
    simp only [List.all_cons, Bool.and_eq_true] at hok
    simp only [findW, findW_none hok.2 fun j b' => h (j + 1) b']
    match r, hok.1, h 0 with
    | [.int .i64 m, b], _, h0 =>
      by_cases e : m = n
      · subst e; exact absurd rfl (h0 b)
      · simp [e]
/-- The last write of a block: its place. -/
theorem findW_some {n : Int} : ∀ {rows : List (List AV)} (hok : rows.all wrOk = true) (k : Nat) (b : AV), rows[k]? = some [AV.int .i64 n, b] → (∀ (j : Nat) (b' : AV), k < j → rows[j]? ≠ some [AV.int .i64 n, b']) → findW n rows = some b
  | [], _, k, b, h, _ => by simp at h
  | r :: s, hok, 0, b, h, hl => by
    simp at h
    subst h
    simp only [List.all_cons, Bool.and_eq_true] at hok
    have := findW_none (n := n) hok.2 fun j b' => hl (j + 1) b' (by omega)
    simp only [findW, this]
    simp
  | r :: s, hok, k + 1, b, h, hl => by
    simp only [List.all_cons, Bool.and_eq_true] at hok
    simp only [findW, findW_some hok.2 k b h fun j b' hj => hl (j + 1) b' (by omega)]
def thereK (xs : List AV) (H : Hp) : Option (AV × Hp) := match xs with
  | [.ptr d 0 0, .int .i64 n] => match H[d]? with
    | some (.arr _ _ [cs]) => match cs[3121]?, cs[1 + n.toNat]? with
      | some w, some z => match rowsOf H w with
        | some rows => if (decide (0 ≤ n) && decide (n < 3120) && slv w && slv z && rows.all wrOk && decide (rows.length ≤ 1000000)) = true then some ((findW n rows).getD z, H) else none
        | none => none
      | _, _ => none
    | _ => none
  | _ => none
theorem there_ok (G : Glob) (xs : List AV) (H : Hp) (r : AV) (H' : Hp) (h : thereK xs H = some (r, H')) : XS Tryz.prog G 108 xs H fun r1 H1 => r1 = r ∧ H1 = H' := by
  unfold thereK at h
  split at h
  case h_2 => cases h
  rename_i d n
  split at h
  case h_2 => cases h
  rename_i T sz cs hd
  split at h
  case h_2 => cases h
  rename_i w z h21 h1n
  split at h
  case h_2 => cases h
  rename_i rows hrows
  split at h
  case isFalse => cases h
  rename_i hc
  simp only [Bool.and_eq_true, decide_eq_true_eq] at hc
  obtain ⟨⟨⟨⟨⟨hn0, hn1⟩, hw⟩, hz⟩, hok⟩, hlen⟩ := hc
  cases h
  intro c Vs s hg hl hr
  match Vs, hl with
  | [V0, V1], _ =>
    have r0 := hr 0 _ V0 rfl rfl
    have r1 := hr 1 _ V1 rfl rfl
    cases r0 with
    | ptr _ _ _ cl hρ =>
      cases r1
      obtain ⟨cl', cells, e1, e2, e3, e4, e5, e6, e7⟩ := s.obj d _ hd
      rw [hρ] at e1
      cases e1
      obtain ⟨W, a1, a2, a3⟩ := (e7 0 cs rfl).2 3121 w h21
      obtain ⟨Z, b1, b2, b3⟩ := (e7 0 cs rfl).2 _ z h1n
      obtain ⟨wa, wl, wc, rfl⟩ := slv_ok hw a3
      obtain ⟨za, zl, zc, rfl⟩ := slv_ok hz b3
      have hsz2 : lenOk 2 rows = true := List.all_eq_true.2 fun r hr => by
        have := List.all_eq_true.1 hok r hr
        unfold wrOk at this
        split at this
        · rfl
        · cases this
      have hS := rows_sound s a3 hrows hsz2
      have hnN : ((n.toNat : Nat) : Int) = n := Int.toNat_of_nonneg hn0
      have hlt : cl.blk < c.w.heap.size := (Array.getElem?_eq_some_iff.1 e3).1
      have hca : c.w.cell? ⟨cl.blk, cl.base + 0 * cl.sz + 0 + 3121, none⟩ = some (.slice wa wl wc) := by
        rw [cell_at e3, ← a1]; congr 1; subst e2; omega
      have hcb : c.w.cell? ⟨cl.blk, cl.base + 0 * cl.sz + 0 + 1 + n.toNat, none⟩ = some (.slice za zl zc) := by
        rw [cell_at e3, ← b1]; congr 1; subst e2; omega
      -- the rows as they lie
      have key : ∃ (m : Nat → Int) (A : Nat → Option Addr) (N C : Nat → Nat), wl = rows.length ∧ Bw.Wr c.w.heap.size c.w (.slice wa wl wc) wl m (fun j => .slice (A j) (N j) (C j)) ∧
          ∀ (j : Nat), j < rows.length → ∃ b, rows[j]? = some [.int .i64 (m j), b] ∧ Rel c b (.slice (A j) (N j) (C j)) := by
        rcases hS with ⟨ba, bc, e, rfl⟩ | ⟨b, o, cap, e, hrw⟩
        · cases e
          exact ⟨fun _ => 0, fun _ => none, fun _ => 0, fun _ => 0, rfl, .inl ⟨_, _, rfl, rfl⟩, fun j hj => by simp at hj⟩
        · cases e
          have each : ∀ j, ∃ (m : Int) (A : Option Addr) (N C : Nat), j < rows.length → c.w.cell? ⟨b, o + j * 2, none⟩ = some (.int .i64 m) ∧ c.w.cell? ⟨b, o + j * 2 + 1, none⟩ = some (.slice A N C) ∧ ∃ x, rows[j]? = some [.int .i64 m, x] ∧ Rel c x (.slice A N C) := by
            intro j
            by_cases hj : j < rows.length
            · have hg := List.getElem?_eq_getElem hj
              have hwk := List.all_eq_true.1 hok _ (List.getElem_mem hj)
              generalize rows[j] = rw0 at hg hwk
              match rw0, hwk, hg with
              | [.int .i64 m, x], hwk, hg =>
                obtain ⟨_, hC⟩ := hrw j _ hg
                obtain ⟨V0, v1, v2, v3⟩ := hC 0 _ rfl
                obtain ⟨V1, u1, u2, u3⟩ := hC 1 _ rfl
                cases v3
                obtain ⟨A, N, C, rfl⟩ := slv_ok hwk u3
                exact ⟨m, A, N, C, fun _ => ⟨v1, u1, x, hg, u3⟩⟩
            · exact ⟨0, none, 0, 0, fun h => absurd h hj⟩
          refine ⟨fun j => (each j).choose, fun j => (each j).choose_spec.choose, fun j => (each j).choose_spec.choose_spec.choose, fun j => (each j).choose_spec.choose_spec.choose_spec.choose, rfl, ?_, fun j hj => ?_⟩
          · have sp := fun j => (each j).choose_spec.choose_spec.choose_spec.choose_spec
            by_cases h0 : rows.length = 0
            · exact .inl ⟨_, _, by rw [h0], h0⟩
            · refine .inr ⟨b, o, _, rfl, ?_, fun j hj => rfl, fun j hj => (sp j hj).1, fun j hj => (sp j hj).2.1⟩
              have := (sp 0 (by omega)).1
              cases hb : c.w.heap[b]? with
              | some ob => exact (Array.getElem?_eq_some_iff.1 hb).1
              | none => simp [World.cell?, hb] at this
          · obtain ⟨_, _, x, h1, h2⟩ := (each j).choose_spec.choose_spec.choose_spec.choose_spec hj
            exact ⟨x, h1, h2⟩
      obtain ⟨m, A, N, C, rfl, hWr, hrel⟩ := key
      have := Bw.there_in 3 (by omega) cl.blk (cl.base + 0 * cl.sz + 0) wa rows.length wc m A N C n.toNat (by omega) za zl zc (by omega) c.w hlt hca hWr hcb
      rw [hnN] at this
      refine ((callsIn_wide (n := 3)).1 this).mono ?_
      rintro e w' ⟨hres, hB⟩
      have t := To.belowS s hB
      rcases hres with ⟨k, hk, hm, hlast, rfl⟩ | ⟨hno, rfl⟩
      · obtain ⟨b, g1, g2⟩ := hrel k hk
        refine ⟨_, _, _, _, rfl, rfl, t, ?_, rfl, rfl⟩
        have : findW n rows = some b := findW_some hok k b (by rw [g1, hm]) fun j b' hj he => by
          have hjl := (List.getElem?_eq_some_iff.1 he).1
          obtain ⟨b2, q1, q2⟩ := hrel j hjl
          rw [q1] at he
          injection he with he
          injection he with he1 he2
          injection he1 with he3 he4
          exact hlast j hj hjl he4
        rw [this]
        exact g2.mono t.ext.mono
      · refine ⟨_, _, _, _, rfl, rfl, t, ?_, rfl, rfl⟩
        have : findW n rows = none := findW_none hok fun j b' he => by
          have hjl := (List.getElem?_eq_some_iff.1 he).1
          obtain ⟨b2, q1, q2⟩ := hrel j hjl
          rw [q1] at he
          injection he with he
          injection he with he1 he2
          injection he1 with he3 he4
          exact hno j hjl he4
        rw [this]
        exact b3.mono t.ext.mono
end Go.Vi
