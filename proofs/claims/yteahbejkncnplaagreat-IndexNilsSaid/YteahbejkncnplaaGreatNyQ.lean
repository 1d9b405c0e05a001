/- laid: a text as bytes, at least 128 of them. -/
import Derived.Test.YteahbejkncnplaaGreatNyP
import Derived.ArgAppend
import Derived.WalkKit
import Derived.LoopN
set_option autoImplicit false
set_option linter.unusedVariables false
namespace Go.Proofs
open Go.RowKit Go.Shelf
namespace Bw
/-- A text's bytes, in a block of their own. -/
theorem conv_run (w : World) (s : ByteArray) : ∃ (cp : Nat) (w1 : World) (cells : Array Value), (convert 9 35 (.string s)).run Tryz.prog w = .ok (.slice (some ⟨w.heap.size, 0, none⟩) s.size cp) w1 ∧ s.size ≤ cp ∧ cells.size = cp ∧
    w1.heap[w.heap.size]? = some (.cells cells 5 (cp, cp + 1)) ∧ Below w.heap.size w w1 := by
  obtain ⟨cp, hcp⟩ : ∃ m, m = (Question.appendCap s.size 0 5).cut (w.tape w.drawn (.appendCap s.size 0 5)) := ⟨_, rfl⟩
  have hle : s.size ≤ cp := by rw [hcp]; simp only [Question.cut]; omega
  let cells : Array Value := s.data.map (fun b => .int .u8 b.toNat) ++ Array.replicate (cp - s.size) (.int .u8 0)
  have hsize : cells.size = cp := by
    have : s.data.size = s.size := rfl
    simp [cells]; omega
  let w1 : World := { w.drew with heap := w.heap.push (.cells cells 5) }
  let w' : World := w1.freeze ⟨w.heap.size, cells.size, none⟩ 1
  have hrun : (convert 9 35 (.string s)).run Tryz.prog w = .ok (.slice (some ⟨w.heap.size, 0, none⟩) s.size cp) w' := by
    have frc : (Question.appendCap s.size 0 5).forced = false := rfl
    have hshape : w1.shape? w.heap.size = some (5, cells.size) := by simp [World.shape?, w1]
    have hw1 : ({ w with drawn := w.drawn + 1, heap := w.heap.push (.cells cells 5) } : World) = w1 := rfl
    simp only [convert, Sem.run_bind, run_underlying Tryz.underlying9, run_underlying Tryz.underlying35, Result.andThen_ok, run_underlying Tryz.underlying5, Conv.stringToBytes, run_choose, frc, Bool.false_eq_true, if_false, ← hcp, newRow, run_newObj, Sem.run_pure, markStringish, run_shape]
    show (Sem.run Tryz.prog (match w1.shape? w.heap.size with | some (_, n) => freeze { block := w.heap.size, off := n } 1 | _ => pure ()) w1).andThen _ = _
    rw [hshape]
    rfl
  have hheap : ∀ b, w'.heap[b]? = if b = w.heap.size then some (.cells cells 5 (cells.size, cells.size + 1)) else w.heap[b]? := fun b => by
    simp only [w', World.freeze, Nat.one_ne_zero, if_false, Array.getElem?_modify, w1]
    by_cases hb : b = w.heap.size
    · subst hb
      simp
    · rw [if_neg (Ne.symm hb), if_neg hb, Array.getElem?_push, if_neg hb]
  have hws : w'.heap.size = w.heap.size + 1 := by simp [w', World.freeze, w1]
  exact ⟨cp, w', cells, hrun, hle, hsize, by rw [hheap, if_pos rfl, hsize], rfl, rfl, rfl, by omega, fun b hb => by rw [hheap, if_neg (by omega)]⟩
theorem info5 : (Tryz.prog.info? 5).map (fun i => (i.zero, i.size, i.bytes)) = some (some (.int .u8 0), 1, 1) := by kernel_rfl
/-- A slice that lies in a block of its own, with what is written behind its end not frozen. -/
def Grows (w0 : World) (W : World) (v : Value) (n : Nat) : Prop := ∃ g cap cur fz, v = .slice (some ⟨g, 0, none⟩) n cap ∧ w0.heap.size ≤ g ∧ W.heap[g]? = some (.cells cur 5 fz) ∧ n ≤ cap ∧ cap ≤ cur.size ∧ (fz = (0, 0) ∨ cap ≤ fz.1) ∧ Below w0.heap.size w0 W
def lenV : Value → Nat
  | .slice _ n _ => n
  | _ => 0
theorem setCell_at {W : World} {g o : Nat} {cur : Array Value} {e : TypeId} {fz : Nat × Nat} (v : Value) (h : W.heap[g]? = some (.cells cur e fz)) : (W.setCell ⟨g, o, none⟩ v).heap[g]? = some (.cells (cur.setIfInBounds o v) e fz) := by
  simp only [World.setCell, Array.getElem?_modify, h]; rfl
set_option maxRecDepth 1000000 in
set_option maxHeartbeats 1000000 in
theorem laid_w (s : ByteArray) (w : World) : Calls Tryz.prog 20 #[.string s] w fun e w' => ∃ v, e = .returned v ∧ Below w.heap.size w w' := by
  obtain ⟨i0, hi, hz0, hz1, hz2⟩ := info_parts info5
  obtain ⟨cp, w1, cells, hconv, hcp, hcs, hh, hB⟩ := conv_run w s
  go_enter Tryz.func20, Tryz.ntmps20
  go_wp2
  go_loopw [3] (fun v wr => ∃ n, Grows w wr v n) (fun v _ => 128 - lenV v)
  case atStart => exact ⟨_, _, _, _, _, rfl, Nat.le_refl _, hh, hcp, by omega, .inr (Nat.le_refl _), hB⟩
  case round =>
    obtain ⟨n, g, cap, cur, fz, rfl, hg, hW, hn, hcap, hfz, hBw⟩ := hrel
    by_cases hlt : n < 128
    · have hglt : g < wr.heap.size := (Array.getElem?_eq_some_iff.1 hW).1
      have hW2 : (wr.alloc (.cells #[.int .u8 0] 5)).heap[g]? = some (.cells cur 5 fz) := (Below.heap_alloc wr _ g hglt).trans hW
      go_wp2_with (at_builtin; refine wpList_append_arg _ rfl (.tmp 9) (.tmp 10) 35 rfl 5 i0 (.int .u8 0) 1 1 Tryz.underlying35 hi hz0 hz1 hz2 rfl (by decide) g 0 n cap (cur.toList.take n) rfl ?lo ?olds ⟨wr.heap.size, 0, none⟩ 1 1 [.int .u8 0] rfl rfl ?c1 ?c2 ?spare ?b1 ?b2 ?room ?grow)
      case lo => simp; omega
      case olds =>
        intro j u hu
        have hj : j < n := by
          have := (List.getElem?_eq_some_iff.1 hu).1
          simp at this; omega
        rw [List.getElem?_take, if_pos hj] at hu
        rw [Vi.cell_at hW2, Nat.zero_add, ← hu, Array.getElem?_toList]
      case c1 => intro j u hj; match j, hj with | 0, hj => simp at hj; subst hj; simp [Addr.add]
      case c2 => intro u hu; simp at hu; subst hu; rfl
      case spare =>
        intro hr j hj
        have hj0 : j = 0 := by simpa using hj
        subst hj0
        refine ⟨?_, ?_⟩
        · rw [Vi.cell_at hW2]
          simp
          omega
        · simp only [World.frozen?, hW2]
          rcases hfz with rfl | hfz
          · simp
          · simp; omega
      case b1 => unfold maxLen; omega
      case b2 => omega
      case room =>
        intro hr
        go_wp2
        have hB2 : Below w.heap.size w (wr.alloc (.cells #[.int .u8 0] 5)) := hBw.alloc hBw.size _
        refine ⟨⟨n + 1, g, cap, _, fz, rfl, hg, by simp only [World.setCells]; exact setCell_at _ hW2, by omega, by simp; omega, hfz, by simp only [World.setCells]; exact hB2.setCell (p := ⟨g, n, none⟩) hg _⟩, by simp only [lenV]; omega⟩
      case grow =>
        intro hgr v' w' hown hgrow
        go_wp2
        have hB2 : Below w.heap.size w (wr.alloc (.cells #[.int .u8 0] 5)) := hBw.alloc hBw.size _
        obtain ⟨_, ⟨_, h0⟩ | ⟨g', cap', cur', rfl, q1, q2, q3, q4, q5, q6⟩⟩ := hown
        · omega
        · refine ⟨⟨n + 1, g', cap', cur', (0, 0), rfl, by have := hB2.size; omega, q2, q3, by omega, .inl rfl, hB2.grown hgrow hB2.size (fun k h => by cases h)⟩, by simp only [lenV]; omega⟩
    · go_wp2
      refine bodyPost_ret (v := .slice (some ⟨g, 0, none⟩) n cap) (by simp [results, Tryz.f20, go_sem]) rfl ⟨_, rfl, hBw⟩
end Bw
end Go.Proofs
namespace Go.Vi
open Go Go.Proofs
def laidK (xs : List AV) (H : Hp) : Option (AV × Hp) := match xs with
  | [.str _] => some (.undef, H)
  | _ => none
theorem laid_ok (G : Glob) (xs : List AV) (H : Hp) (r : AV) (H' : Hp) (h : laidK xs H = some (r, H')) : XS Tryz.prog G 20 xs H fun r1 H1 => r1 = r ∧ H1 = H' := by
  unfold laidK at h
  split at h
  case h_2 => cases h
  rename_i s
  cases h
  intro c Vs sm hg hl hr
  match Vs, hl with
  | [V0], _ =>
    have r0 := hr 0 _ V0 rfl rfl
    cases r0
    refine (Bw.laid_w s c.w).mono ?_
    rintro e w' ⟨v, rfl, hB⟩
    exact ⟨_, _, _, _, rfl, rfl, To.belowS sm hB, .undef _, rfl, rfl⟩
end Go.Vi
