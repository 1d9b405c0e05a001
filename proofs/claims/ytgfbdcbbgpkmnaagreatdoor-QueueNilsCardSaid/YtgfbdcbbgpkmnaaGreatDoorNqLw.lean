/- QueueNils: what is known. -/
import Derived.Test.YtgfbdcbbgpkmnaaGreatDoorNqAw
import Derived.Test.YtgfbdcbbgpkmnaaGreatDoorNqNa
import Derived.Test.YtgfbdcbbgpkmnaaGreatDoorViV
set_option autoImplicit false
set_option linter.unusedVariables false
set_option maxRecDepth 1000000
namespace Go.Vi
open Go Go.Proofs Go.RowKit
def trueK (xs : List AV) (H : Hp) : Option (AV × Hp) := match xs with
  | [] => some (.bool true, H)
  | _ => none
def trueT (xs : List AV) (h : HT) : Option (AV × HT) := match xs with
  | [] => some (.bool true, h)
  | _ => none
theorem true_ks : KS trueT trueK := fun xs h r h' k hv => by
  unfold trueT at hv
  split at hv
  case h_2 => cases hv
  cases hv
  exact ⟨k, rfl⟩
/-- What a call without arguments gives, over whatever lies. -/
theorem closed_xs {P : Program} {f : Nat} {b : Bool} (hx : XS P (fun _ => none) f [] [] fun r1 H1 => r1 = .bool b) (G : Glob) (H : Hp) : XS P G f [] H fun r1 H1 => r1 = .bool b ∧ H1 = H := by
  intro c Vs s hg hl hr
  match Vs, hl with
  | [], _ =>
    have s0 : Sim { w := c.w, I := fun _ => False, B := fun _ => False, ρ := fun _ => none } [] := ⟨fun _ h => h.elim, fun _ h => h.elim, fun l o h => by simp at h, fun l l' cl cl' h => by obtain ⟨o, h, _⟩ := h; simp at h, fun _ _ => rfl⟩
    refine (hx _ [] s0 (fun g cs h => by cases h) rfl (fun j x V h => by simp at h)).mono ?_
    rintro e w' ⟨r1, H1, c', V, rfl, rfl, t, hV, rfl⟩
    have hB : Below c.w.heap.size c.w c'.w := ⟨t.ext.os, t.ext.tape, t.ext.output, t.ext.size, fun b hb => t.ext.frame b hb fun ⟨l, cl, ⟨o, h, _⟩, _⟩ => by simp at h⟩
    cases hV
    exact ⟨_, _, { c with w := c'.w }, _, rfl, rfl, To.belowS s hB, .bool _, rfl, rfl⟩
noncomputable def outG (x : RG) : Option (AV × Obls) := Option.rec none (fun p => some (p.1.1, p.2)) x
theorem outG_ok {x : RG} {v : AV} {L : Obls} (h : outG x = some (v, L)) : ∃ h', x = some ((v, h'), L) := by
  cases x with
  | none => cases h
  | some p => obtain ⟨⟨a, b⟩, c⟩ := p; cases h; exact ⟨b, rfl⟩
/-! isKind -/
noncomputable def kB (n : Int) : Bool := (!ltN n 1) && (!ltN 3 n)
def Wkd (b : Bool) : Nat → Option Ora := fun f => match f with
  | 69 => some fun t => match t with | 5 => some b | 4 => some b | _ => none
  | _ => none
noncomputable def kindK (xs : List AV) (H : Hp) : Option (AV × Hp) := match xs with
  | [.int .i64 n] => some (.bool (kB n), H)
  | _ => none
noncomputable def kindT (xs : List AV) (h : HT) : Option (AV × HT) := match xs with
  | [.int .i64 n] => some (.bool (kB n), h)
  | _ => none
theorem kind_ks : KS kindT kindK := fun xs h r h' k hv => by
  unfold kindT at hv
  split at hv
  case h_2 => cases hv
  cases hv
  exact ⟨k, rfl⟩
theorem kind_a (n : Int) (h : HT) : runG cfY O1 (Wkd true) 2 69 [.int .i64 n] h = some ((.bool (!ltN 3 n), h), [(.bool (!ltN n 1), .bool true), (.bool (!ltN n 1), .bool true), (.bool (!ltN n 1), .bool true)]) := by kernel_rfl
theorem kind_b (n : Int) (h : HT) : runG cfY O1 (Wkd false) 2 69 [.int .i64 n] h = some ((.bool false, h), [(.bool (!ltN n 1), .bool false), (.bool (!ltN n 1), .bool false), (.bool (!ltN n 1), .bool false)]) := by kernel_rfl
theorem wkd_ok (b : Bool) : ∀ f, (Wkd b f).isSome = true → K1 f = none := by
  intro f h
  unfold Wkd at h
  split at h <;> first | rfl | (cases h; done)
theorem oks3 {a b : Bool} (h : a = b) : oksL [(.bool a, .bool b), (.bool a, .bool b), (.bool a, .bool b)] := by
  subst h
  intro p hp
  simp only [List.mem_cons, List.not_mem_nil, or_false, or_self] at hp
  subst hp
  exact beq_self_eq_true a
theorem kind_ok (xs : List AV) (H : Hp) (r : AV) (H' : Hp) (hv : kindK xs H = some (r, H')) : XS Tryz.prog (fun _ => none) 69 xs H fun r1 H1 => r1 = r ∧ H1 = H' := by
  unfold kindK at hv
  split at hv
  case h_2 => cases hv
  rename_i n
  cases hv
  obtain ⟨a, b⟩ := htOf_ok H
  cases hb : (!ltN n 1) with
  | true =>
    have := runG_xs (c := cfY) O1_sim K1_ok (wkd_ok true) a (kind_a n (htOf H)) (oks3 hb)
    rw [b] at this
    have e : kB n = !ltN 3 n := by unfold kB; rw [hb]; rfl
    rw [e]
    exact this
  | false =>
    have := runG_xs (c := cfY) O1_sim K1_ok (wkd_ok false) a (kind_b n (htOf H)) (oks3 hb)
    rw [b] at this
    have e : kB n = false := by unfold kB; rw [hb]; rfl
    rw [e]
    exact this
/-! IsName -/
def nameK (xs : List AV) (H : Hp) : Option (AV × Hp) := match xs with
  | [.str s] => if s.size < 9223372036854775808 then some (.bool (isNameB s), H) else none
  | _ => none
def noT (xs : List AV) (h : HT) : Option (AV × HT) := none
theorem no_ks (k : List AV → Hp → Option (AV × Hp)) : KS noT k := fun xs h r h' _ hv => by cases hv
theorem name_ok (xs : List AV) (H : Hp) (r : AV) (H' : Hp) (hv : nameK xs H = some (r, H')) : XS Tryz.prog (fun _ => none) 73 xs H fun r1 H1 => r1 = r ∧ H1 = H' := by
  unfold nameK at hv
  split at hv
  case h_2 => cases hv
  rename_i s
  split at hv
  case isFalse => cases hv
  rename_i hs
  cases hv
  exact Fn.xs rfl (nName _ s hs)
def nameG (xs : List AV) (h : HT) : RG := match xs with
  | [.str s] => some ((.bool (isNameB s), h), [(.bool (decide (s.size < 9223372036854775808)), .bool true)])
  | _ => none
noncomputable def O3 : KnownT := addT (addT (addT O2 69 kindT) 4 trueT) 73 noT
noncomputable def K3 : Known := addK (addK (addK K2 69 kindK) 4 trueK) 73 nameK
theorem O3_sim : KSim O3 K3 := addT_sim (addT_sim (addT_sim O2_sim kind_ks) true_ks) (no_ks _)
theorem K3_ok : KnownOk Tryz.prog (fun _ => none) K3 := addK_ok (addK_ok (addK_ok K2_ok kind_ok) fun xs H r H' hv => by
  unfold trueK at hv
  split at hv
  case h_2 => cases hv
  cases hv
  exact closed_xs awake_xs _ H) name_ok
def OG3 : KnownH := fun f => match f with
  | 73 => some nameG
  | _ => none
theorem OG3_sim : HSim OG3 K3 := fun f k hf => by
  unfold OG3 at hf
  split at hf
  case h_2 => cases hf
  cases hf
  refine ⟨nameK, rfl, fun xs h r h' L hh hv hL => ?_⟩
  unfold nameG at hv
  split at hv
  case h_2 => cases hv
  rename_i s
  simp only [Option.some.injEq, Prod.mk.injEq] at hv
  obtain ⟨⟨rfl, rfl⟩, rfl⟩ := hv
  have h1 := hL _ (List.mem_cons_self ..)
  have h2 := AV.same_eq h1
  simp only [AV.bool.injEq, decide_eq_true_eq] at h2
  refine ⟨hh, ?_⟩
  unfold nameK
  simp only [h2, if_true]
/-! The truths: the text is too long; the kind; a name; the number is a kind. -/
def W3 (b0 b1 b2 b4 : Bool) : Nat → Option Ora := fun f => match f with
  | 3 => some fun t => match t with | 18 => some b0 | _ => none
  | 8 => some fun _ => none
  | 9 => some fun t => match t with | 21 => some (b1 && b2) | _ => none
  | 22 => some fun _ => none
  | 23 => some fun t => match t with | 25 => some (b1 && b2) | _ => none
  | 24 => some fun _ => none
  | 68 => some fun t => match t with | 23 => some (b1 && b2) | _ => none
  | 10 => some fun _ => none
  | 28 => some fun _ => none
  | 29 => some fun _ => none
  | 30 => some fun t => match t with | 21 => some b4 | _ => none
  | 31 => some fun t => match t with | 14 => some b2 | _ => none
  | 33 => some fun t => match t with | 7 => some b1 | _ => none
  | _ => none
theorem w3_ok (b0 b1 b2 b4 : Bool) : ∀ f, OG3 f = none → (W3 b0 b1 b2 b4 f).isSome = true → K3 f = none := by
  intro f _ h
  unfold W3 at h
  split at h <;> first | rfl | (cases h; done)
end Go.Vi
