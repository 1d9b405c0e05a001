/- second.entry: a text as bytes, and two more, known. -/
import Derived.Test.YtecjobmgphdjoaaGreatNzR
import Derived.ArgAppend
import Derived.WalkKit
set_option autoImplicit false
set_option linter.unusedVariables false
set_option linter.unusedSimpArgs false
namespace Go.Proofs
open Go.RowKit Go.Shelf
namespace Bw
def textL (s : ByteArray) : List Value := s.data.toList.map fun b => .int .u8 b.toNat
/-- A text's bytes, in a block of their own. -/
theorem conv_run2 (w : World) (s : ByteArray) : ∃ (cp : Nat) (w1 : World) (cells : Array Value), (convert 9 78 (.string s)).run Tryz.prog w = .ok (.slice (some ⟨w.heap.size, 0, none⟩) s.size cp) w1 ∧ s.size ≤ cp ∧ cells.size = cp ∧
    w1.heap[w.heap.size]? = some (.cells cells 5 (cp, cp + 1)) ∧ Below w.heap.size w w1 ∧ cells.toList.take s.size = textL s := by
  obtain ⟨cp, hcp⟩ : ∃ m, m = (Question.appendCap s.size 0 5).cut (w.tape w.drawn (.appendCap s.size 0 5)) := ⟨_, rfl⟩
  have hle : s.size ≤ cp := by rw [hcp]; simp only [Question.cut]; omega
  let cells : Array Value := s.data.map (fun b => .int .u8 b.toNat) ++ Array.replicate (cp - s.size) (.int .u8 0)
  have hsd : s.data.size = s.size := rfl
  have hsize : cells.size = cp := by
    simp [cells]; omega
  let w1 : World := { w.drew with heap := w.heap.push (.cells cells 5) }
  let w' : World := w1.freeze ⟨w.heap.size, cells.size, none⟩ 1
  have hrun : (convert 9 78 (.string s)).run Tryz.prog w = .ok (.slice (some ⟨w.heap.size, 0, none⟩) s.size cp) w' := by
    have frc : (Question.appendCap s.size 0 5).forced = false := rfl
    have hshape : w1.shape? w.heap.size = some (5, cells.size) := by simp [World.shape?, w1]
    have hw1 : ({ w with drawn := w.drawn + 1, heap := w.heap.push (.cells cells 5) } : World) = w1 := rfl
    simp only [convert, Sem.run_bind, run_underlying Tryz.underlying9, run_underlying Tryz.underlying78, Result.andThen_ok, run_underlying Tryz.underlying5, Conv.stringToBytes, run_choose, frc, Bool.false_eq_true, if_false, ← hcp, newRow, run_newObj, Sem.run_pure, markStringish, run_shape]
    show (Sem.run Tryz.prog (match w1.shape? w.heap.size with | some (_, n) => freeze { block := w.heap.size, off := n } 1 | _ => pure ()) w1).andThen _ = _
    rw [hshape]
    rfl
  have hheap : ∀ b, w'.heap[b]? = if b = w.heap.size then some (.cells cells 5 (cells.size, cells.size + 1)) else w.heap[b]? := fun b => by
    simp only [w', World.freeze, Nat.one_ne_zero, if_false, Array.getElem?_modify, w1]
    by_cases hb : b = w.heap.size
    · subst hb
      simp
    · rw [if_neg (Ne.symm hb), if_neg hb, Array.getElem?_push, if_neg hb]
  have hws : w'.heap.size = w.heap.size + 1 := by simp [w', World.freeze, w1]
  refine ⟨cp, w', cells, hrun, hle, hsize, by rw [hheap, if_pos rfl, hsize], ⟨rfl, rfl, rfl, by omega, fun b hb => by rw [hheap, if_neg (by omega)]⟩, ?_⟩
  have hl : (textL s).length = s.size := by simp [textL, hsd]
  have : cells.toList = textL s ++ List.replicate (cp - s.size) (.int .u8 0) := by simp [cells, textL]
  rw [this, ← hl, List.take_left]
theorem info5 : (Tryz.prog.info? 5).map (fun i => (i.zero, i.size, i.bytes)) = some (some (.int .u8 0), 1, 1) := by kernel_rfl
def two (a : Int) : List Value := [.int .u8 (a / 256), .int .u8 (a % 256)]
set_option maxRecDepth 1000000 in
set_option maxHeartbeats 1000000 in
theorem entry_w (s : ByteArray) (a : Nat) (ha : a ≤ 65535) (hs : s.size ≤ 100000) (w : World) : Calls Tryz.prog 31 #[.string s, .int .i64 a] w fun e w' => ∃ g cap cur fz, e = .returned (.slice (some ⟨g, 0, none⟩) (s.size + 2) cap) ∧ w.heap.size ≤ g ∧
    w'.heap[g]? = some (.cells cur 5 fz) ∧ s.size + 2 ≤ cap ∧ cur.toList.take (s.size + 2) = textL s ++ two a ∧ Below w.heap.size w w' := by
  obtain ⟨i0, hi, hz0, hz1, hz2⟩ := info_parts info5
  obtain ⟨cp, w1, cells, hconv, hcp, hcs, hh, hB, hct⟩ := conv_run2 w s
  have hl : (textL s).length = s.size := by simp [textL]
  have hw1 : w.heap.size < w1.heap.size := (Array.getElem?_eq_some_iff.1 hh).1
  have hat : ∀ (j : Nat) (v : Value), (textL s)[j]? = some v → cells[j]? = some v := fun j v hj => by
    rw [← hct, List.getElem?_take] at hj
    split at hj
    · rwa [Array.getElem?_toList] at hj
    · cases hj
  obtain ⟨W, hW⟩ : ∃ W, w1.alloc (.cells #[.int .u8 ((a : Int) / 256), .int .u8 ((a : Int) % 256)] 5) = W := ⟨_, rfl⟩
  have hBW : Below w.heap.size w W := by rw [← hW]; exact hB.alloc (Nat.le_of_lt hw1) _
  have hg : W.heap[w.heap.size]? = some (.cells cells 5 (cp, cp + 1)) := by rw [← hW]; exact (Below.heap_alloc w1 _ _ hw1).trans hh
  have hn2 : W.heap[w1.heap.size]? = some (.cells #[.int .u8 ((a : Int) / 256), .int .u8 ((a : Int) % 256)] 5 (0, 0)) := by rw [← hW]; exact World.alloc_heap_new w1 _
  subst hW
  go_enter Tryz.func31, Tryz.ntmps31
  go_wp2_with (first
    | (at_builtin; refine wpList_append_arg _ rfl (.tmp 6) (.tmp 12) 78 rfl 5 i0 (.int .u8 0) 1 1 Tryz.underlying78 hi hz0 hz1 hz2 rfl (by decide) w.heap.size 0 s.size cp (textL s) rfl ?lo ?olds ⟨w1.heap.size, 0, none⟩ 2 2 (two a) rfl rfl ?c1 ?c2 ?spare ?b1 ?b2 ?room ?grow))
  case lo => rw [hl]; omega
  case olds =>
    intro j u hu
    rw [Vi.cell_at hg, Nat.zero_add]
    exact hat j u hu
  case c1 =>
    intro j u hj
    rw [Addr.add_lit, Vi.cell_at hn2]
    match j, hj with
    | 0, hj => simpa [two] using hj
    | 1, hj => simpa [two] using hj
  case c2 =>
    intro u hu
    simp [two] at hu
    rcases hu with rfl | rfl <;> rfl
  case spare =>
    intro hr j hj
    have hj2 : j < 2 := hj
    refine ⟨?_, ?_⟩
    · rw [Vi.cell_at hg, Array.getElem?_eq_getElem (by omega)]; rfl
    · simp only [World.frozen?, hg]
      simp; omega
  case b1 => unfold maxLen; omega
  case b2 => omega
  case room =>
    intro hr
    go_wp2
    obtain ⟨cur', c1, c2, c3, c4⟩ := Vi.setCells_heap (two a) s.size _ cells hg (by show _ + 2 ≤ _; omega)
    refine bodyPost_ret (v := .slice (some ⟨w.heap.size, 0, none⟩) (s.size + 2) cp) (by simp [results, Tryz.f31, go_sem]) rfl ⟨w.heap.size, cp, cur', _, rfl, Nat.le_refl _, c1, hr, ?_, ?_⟩
    · refine List.ext_getElem? fun i => ?_
      rw [List.getElem?_take]
      have hlen : (textL s ++ two (a : Int)).length = s.size + 2 := by rw [List.length_append, hl]; rfl
      split
      · rename_i hi2
        rw [Array.getElem?_toList]
        by_cases h1 : i < s.size
        · rw [c3 i (by omega), List.getElem?_append_left (by omega)]
          have h2 : i < (textL s).length := by omega
          rw [hat i _ (List.getElem?_eq_getElem h2), List.getElem?_eq_getElem h2]
        · rw [List.getElem?_append_right (by omega), hl]
          have h2 : i - s.size < (two (a : Int)).length := by show _ < 2; omega
          have h3 := c4 (i - s.size) _ (List.getElem?_eq_getElem h2)
          rw [show s.size + (i - s.size) = i by omega] at h3
          rw [h3, List.getElem?_eq_getElem h2]
      · rw [List.getElem?_eq_none (by omega)]
    · have hsz := (Vi.setCells_rest w.heap.size (two (a : Int)) s.size (w1.alloc (.cells #[.int .u8 ((a : Int) / 256), .int .u8 ((a : Int) % 256)] 5)))
      exact ⟨hsz.2.1.trans hBW.os, hsz.2.2.1.trans hBW.tape, hsz.2.2.2.trans hBW.output, by rw [hsz.1]; exact hBW.size, fun b hb => by rw [Vi.setCells_other _ _ _ _ (by omega)]; exact hBW.block b hb⟩
  case grow =>
    intro hgr v' w' hown hgrow
    go_wp2
    obtain ⟨_, ⟨_, h0⟩ | ⟨g', cap', cur', rfl, q1, q2, q3, q4, q5, q6⟩⟩ := hown
    · omega
    · refine bodyPost_ret (v := .slice (some ⟨g', 0, none⟩) (s.size + 2) cap') (by simp [results, Tryz.f31, go_sem]) rfl ⟨g', cap', cur', (0, 0), rfl, by have := hBW.size; omega, q2, q3, ?_, hBW.grown hgrow hBW.size (fun k h => by cases h)⟩
      rwa [Nat.mul_one] at q6
end Bw
end Go.Proofs
namespace Go.Vi
open Go Go.Proofs
theorem To.newIg {c : Cx} {H : Hp} (s : Sim c H) {w' : World} {g : Nat} (hg : c.w.heap.size ≤ g) (hg' : g < w'.heap.size) (hB : RowKit.Below c.w.heap.size c.w w') :
    To c H { c with w := w', I := fun b => c.I b ∨ b = g } H := by
  have hsz := hB.size
  have m : Mono c { c with w := w', I := fun b => c.I b ∨ b = g } := ⟨fun _ h => .inl h, fun _ h => h, fun _ _ h => h, fun b h => hB.block b (h.elim (s.bound b) (s.boundB b))⟩
  refine ⟨⟨m, hsz, fun b hb _ => hB.block b hb, fun b h => h.elim .inl (fun e => .inr (.inl (by omega))), fun _ => Iff.rfl, fun _ _ h => .inl h, hB.os, hB.tape, hB.output⟩, ⟨fun b hb => ?_, fun b hb => ?_, fun l o h => ?_, s.inj, s.fresh⟩, Nat.le_refl _, fun _ _ h => h⟩
  · show b < w'.heap.size
    rcases hb with hb | hb
    · have := s.bound b hb; omega
    · omega
  · show b < w'.heap.size
    have := s.boundB b hb; omega
  · refine (s.obj l o h).keep m (fun cl hr hv hi => ?_) (fun _ h => h) (fun cl hr hv => hB.block _ (s.lt (live_of h hv) hr))
    rcases hi with hi | hi
    · exact hi
    · have := s.lt (live_of h hv) hr; omega
def entryRows (s : ByteArray) (a : Int) : List (List AV) := (s.data.toList.map fun b => [.int .u8 b.toNat]) ++ [[.int .u8 (a / 256)], [.int .u8 (a % 256)]]
def entryK (xs : List AV) (H : Hp) : Option (AV × Hp) := match xs with
  | [.str s, .int .i64 a] => if (decide (0 ≤ a) && decide (a ≤ 65535) && decide (s.size ≤ 100000)) = true then some (.list .loose (entryRows s a), H) else none
  | _ => none
def entryT (xs : List AV) (h : HT) : Option (AV × HT) := match xs with
  | [.str s, .int .i64 a] => if (decide (0 ≤ a) && decide (a ≤ 65535) && decide (s.size ≤ 100000)) = true then some (.list .loose (entryRows s a), h) else none
  | _ => none
theorem entry_ks : KS entryT entryK := fun xs h r h' k hv => by
  unfold entryT at hv
  split at hv
  case h_2 => cases hv
  rename_i s a
  split at hv
  case isFalse => cases hv
  rename_i hc
  cases hv
  exact ⟨k, by simp only [entryK, hc, if_true]⟩
theorem entry_ok (G : Glob) (xs : List AV) (H : Hp) (r : AV) (H' : Hp) (h : entryK xs H = some (r, H')) : XS Tryz.prog G 31 xs H fun r1 H1 => r1 = r ∧ H1 = H' := by
  unfold entryK at h
  split at h
  case h_2 => cases h
  rename_i s a
  split at h
  case isFalse => cases h
  rename_i hc
  simp only [Bool.and_eq_true, decide_eq_true_eq] at hc
  obtain ⟨⟨hc1, hc2⟩, hc3⟩ := hc
  cases h
  obtain ⟨n, rfl⟩ : ∃ n : Nat, a = (n : Int) := ⟨a.toNat, by omega⟩
  intro c Vs sm hg hl hr
  match Vs, hl with
  | [V0, V1], _ =>
    have r0 := hr 0 _ V0 rfl rfl
    have r1 := hr 1 _ V1 rfl rfl
    cases r0
    cases r1
    refine (Bw.entry_w s n (by omega) hc3 c.w).mono ?_
    rintro e w' ⟨g, cap, cur, fz, rfl, g1, g2, g3, g4, hB⟩
    have T := To.newIg sm g1 (Array.getElem?_eq_some_iff.1 g2).1 hB
    have hlen : (entryRows s n).length = s.size + 2 := by simp [entryRows]
    have hall : ∀ (i : Nat) (r : List AV), (entryRows s n)[i]? = some r → ∃ k : Int, r = [.int .u8 k] ∧ cur[i]? = some (.int .u8 k) := fun i r hi => by
      have hlt : i < s.size + 2 := by rw [← hlen]; exact (List.getElem?_eq_some_iff.1 hi).1
      have e1 : cur[i]? = (Bw.textL s ++ Bw.two (n : Int))[i]? := by rw [← g4, List.getElem?_take, if_pos hlt, Array.getElem?_toList]
      have htl : (Bw.textL s).length = s.size := by simp [Bw.textL]
      rw [e1]
      unfold entryRows at hi
      by_cases h1 : i < s.size
      · rw [List.getElem?_append_left (by simpa using h1), List.getElem?_map] at hi
        obtain ⟨b, hb, rfl⟩ := Option.map_eq_some_iff.1 hi
        refine ⟨_, rfl, ?_⟩
        rw [List.getElem?_append_left (by omega)]
        simp only [Bw.textL, List.getElem?_map, hb, Option.map_some]
      · rw [List.getElem?_append_right (by simp; omega)] at hi
        rw [List.getElem?_append_right (by omega), htl]
        have e2 : (s.data.toList.map fun b => ([.int .u8 b.toNat] : List AV)).length = s.size := by simp
        rw [e2] at hi
        match hk : i - s.size, (show i - s.size < 2 by omega) with
        | 0, _ => rw [hk] at hi; simp at hi; subst hi; exact ⟨_, rfl, rfl⟩
        | 1, _ => rw [hk] at hi; simp at hi; subst hi; exact ⟨_, rfl, rfl⟩
    have hval : allVal (entryRows s n) = true := List.all_eq_true.2 fun r hr => by
      obtain ⟨i, hi⟩ := List.mem_iff_getElem?.1 hr
      obtain ⟨k, rfl, _⟩ := hall i r hi
      rfl
    refine ⟨_, _, _, _, rfl, rfl, T, ?_, rfl, rfl⟩
    have hrel := Rel.list (c := { c with w := w', I := fun b => c.I b ∨ b = g }) .loose (entryRows s n) g 0 1 cap none (.inr rfl) (fun i j => cur.getD i undef) (.inr (.inr rfl)) (by omega) (fun h => by cases h)
      (fun r hr => by obtain ⟨i, hi⟩ := List.mem_iff_getElem?.1 hr; obtain ⟨k, rfl, _⟩ := hall i r hi; rfl) hval (fun i j hi hj => ?_) (fun i r j x hr hx => ?_)
    · rwa [hlen] at hrel
    · have hj0 : j = 0 := by omega
      subst hj0
      obtain ⟨k, _, hk⟩ := hall i _ (List.getElem?_eq_getElem hi)
      rw [cell_at g2]
      have e0 : 0 + i * 1 + 0 = i := by omega
      rw [e0, Array.getD_eq_getD_getElem?, hk]
      exact ⟨rfl, rfl⟩
    · obtain ⟨k, rfl, hk⟩ := hall i r hr
      cases j with
      | succ j => simp at hx
      | zero =>
        simp at hx
        subst hx
        show Rel _ _ (cur.getD i undef)
        rw [Array.getD_eq_getD_getElem?, hk]
        exact .int _ _
end Go.Vi
