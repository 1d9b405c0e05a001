/- RootNils: what is known. -/
import Derived.Test.YteejggadbifdbaaGreatNrAw
import Derived.Test.YteejggadbifdbaaGreatViU
set_option autoImplicit false
set_option linter.unusedVariables false
set_option maxRecDepth 1000000
namespace Go.Vi
open Go Go.Proofs Go.RowKit
def trueK (xs : List AV) (H : Hp) : Option (AV × Hp) := match xs with
  | [] => some (.bool true, H)
  | _ => none
def trueT (xs : List AV) (h : HT) : Option (AV × HT) := match xs with
  | [] => some (.bool true, h)
  | _ => none
theorem true_ks : KS trueT trueK := fun xs h r h' k hv => by
  unfold trueT at hv
  split at hv
  case h_2 => cases hv
  cases hv
  exact ⟨k, rfl⟩
/-- What a call without arguments gives, over whatever lies. -/
theorem closed_xs {P : Program} {f : Nat} {b : Bool} (hx : XS P (fun _ => none) f [] [] fun r1 H1 => r1 = .bool b) (G : Glob) (H : Hp) : XS P G f [] H fun r1 H1 => r1 = .bool b ∧ H1 = H := by
  intro c Vs s hg hl hr
  match Vs, hl with
  | [], _ =>
    have s0 : Sim { w := c.w, I := fun _ => False, B := fun _ => False, ρ := fun _ => none } [] := ⟨fun _ h => h.elim, fun _ h => h.elim, fun l o h => by simp at h, fun l l' cl cl' h => by obtain ⟨o, h, _⟩ := h; simp at h, fun _ _ => rfl⟩
    refine (hx _ [] s0 (fun g cs h => by cases h) rfl (fun j x V h => by simp at h)).mono ?_
    rintro e w' ⟨r1, H1, c', V, rfl, rfl, t, hV, rfl⟩
    have hB : Below c.w.heap.size c.w c'.w := ⟨t.ext.os, t.ext.tape, t.ext.output, t.ext.size, fun b hb => t.ext.frame b hb fun ⟨l, cl, ⟨o, h, _⟩, _⟩ => by simp at h⟩
    cases hV
    exact ⟨_, _, { c with w := c'.w }, _, rfl, rfl, To.belowS s hB, .bool _, rfl, rfl⟩
noncomputable def outG (x : RG) : Option (AV × Obls) := Option.rec none (fun p => some (p.1.1, p.2)) x
theorem outG_ok {x : RG} {v : AV} {L : Obls} (h : outG x = some (v, L)) : ∃ h', x = some ((v, h'), L) := by
  cases x with
  | none => cases h
  | some p => obtain ⟨⟨a, b⟩, c⟩ := p; cases h; exact ⟨b, rfl⟩
/-! One truth in a function without calls. -/
def Wd (g t : Nat) (b : Bool) : Nat → Option Ora := fun f => match Nat.beq f g with
  | true => some fun s => match Nat.beq s t with | true => some b | false => none
  | false => none
theorem wd_ok (g t : Nat) (b : Bool) (hg : K1 g = none) : ∀ f, (Wd g t b f).isSome = true → K1 f = none := by
  intro f h
  unfold Wd at h
  split at h
  · rename_i hb
    rw [Nat.eq_of_beq_eq_true hb]
    exact hg
  · cases h
def reps (x : AV × AV) : Nat → Obls
  | 0 => []
  | n + 1 => x :: reps x n
theorem oks_reps {a b : Bool} (h : a = b) (n : Nat) : oksL (reps (.bool a, .bool b) n) := by
  subst h
  induction n with
  | zero => intro p hp; cases hp
  | succ n ih =>
    intro p hp
    rcases List.mem_cons.1 hp with rfl | hp
    · exact beq_self_eq_true a
    · exact ih p hp
/-- A function that answers a && b, without calls. -/
theorem both_xs {g t n : Nat} {xs : List AV} {a b : Bool} (hg : K1 g = none) (h1 : ∀ h : HT, runG cfY O1 (Wd g t true) 2 g xs h = some ((.bool b, h), reps (.bool a, .bool true) n))
    (h2 : ∀ h : HT, runG cfY O1 (Wd g t false) 2 g xs h = some ((.bool false, h), reps (.bool a, .bool false) n)) (H : Hp) : XS Tryz.prog (fun _ => none) g xs H fun r1 H1 => r1 = .bool (a && b) ∧ H1 = H := by
  obtain ⟨k, e⟩ := htOf_ok H
  cases hb : a with
  | true =>
    have := runG_xs (c := cfY) O1_sim K1_ok (wd_ok g t true hg) k (h1 (htOf H)) (oks_reps hb n)
    rw [e] at this
    exact this
  | false =>
    have := runG_xs (c := cfY) O1_sim K1_ok (wd_ok g t false hg) k (h2 (htOf H)) (oks_reps hb n)
    rw [e] at this
    exact this
noncomputable def kindB (n : Int) : Bool := (!ltN n 1) && (!ltN 4 n)
noncomputable def valV (n : Int) : Bool := (!ltN n 1) && (!ltN 65535 n)
noncomputable def keyV (r : List (List AV)) : Bool := (!ltN (Int.ofNat (lenL r)) 1) && (!ltN 24 (Int.ofNat (lenL r)))
theorem kind_xs (n : Int) (H : Hp) : XS Tryz.prog (fun _ => none) 8 [.int .i64 n] H fun r1 H1 => r1 = .bool (kindB n) ∧ H1 = H :=
  both_xs (t := 5) (n := 3) (by kernel_rfl) (fun h => by kernel_rfl) (fun h => by kernel_rfl) H
theorem val_xs (n : Int) (H : Hp) : XS Tryz.prog (fun _ => none) 35 [.int .i64 n] H fun r1 H1 => r1 = .bool (valV n) ∧ H1 = H :=
  both_xs (t := 5) (n := 3) (by kernel_rfl) (fun h => by kernel_rfl) (fun h => by kernel_rfl) H
theorem key_xs (r : List (List AV)) (H : Hp) : XS Tryz.prog (fun _ => none) 34 [.list .loose r] H fun r1 H1 => r1 = .bool (keyV r) ∧ H1 = H :=
  both_xs (t := 6) (n := 4) (by kernel_rfl) (fun h => by kernel_rfl) (fun h => by kernel_rfl) H
theorem keyN_xs (H : Hp) : XS Tryz.prog (fun _ => none) 34 [.nils] H fun r1 H1 => r1 = .bool false ∧ H1 = H := by
  have := both_xs (g := 34) (xs := [.nils]) (a := false) (b := true) (t := 6) (n := 4) (by kernel_rfl) (fun h => by kernel_rfl) (fun h => by kernel_rfl) H
  exact this
/-- One number: a truth. -/
noncomputable def intK (p : Int → Bool) (xs : List AV) (H : Hp) : Option (AV × Hp) := match xs with
  | [.int .i64 n] => some (.bool (p n), H)
  | _ => none
noncomputable def intT (p : Int → Bool) (xs : List AV) (h : HT) : Option (AV × HT) := match xs with
  | [.int .i64 n] => some (.bool (p n), h)
  | _ => none
theorem int_ks (p : Int → Bool) : KS (intT p) (intK p) := fun xs h r h' k hv => by
  unfold intT at hv
  split at hv
  case h_2 => cases hv
  cases hv
  exact ⟨k, rfl⟩
theorem int_ok {g : Nat} {p : Int → Bool} (hx : ∀ n H, XS Tryz.prog (fun _ => none) g [.int .i64 n] H fun r1 H1 => r1 = .bool (p n) ∧ H1 = H) (xs : List AV) (H : Hp) (r : AV) (H' : Hp) (hv : intK p xs H = some (r, H')) : XS Tryz.prog (fun _ => none) g xs H fun r1 H1 => r1 = r ∧ H1 = H' := by
  unfold intK at hv
  split at hv
  case h_2 => cases hv
  cases hv
  exact hx _ _
noncomputable def keyK (xs : List AV) (H : Hp) : Option (AV × Hp) := match xs with
  | [.list .loose r] => some (.bool (keyV r), H)
  | [.nils] => some (.bool false, H)
  | _ => none
noncomputable def keyT (xs : List AV) (h : HT) : Option (AV × HT) := match xs with
  | [.list .loose r] => some (.bool (keyV r), h)
  | [.nils] => some (.bool false, h)
  | _ => none
theorem key_ks : KS keyT keyK := fun xs h r h' k hv => by
  unfold keyT at hv
  split at hv
  · cases hv; exact ⟨k, rfl⟩
  · cases hv; exact ⟨k, rfl⟩
  · cases hv
theorem key_ok (xs : List AV) (H : Hp) (r : AV) (H' : Hp) (hv : keyK xs H = some (r, H')) : XS Tryz.prog (fun _ => none) 34 xs H fun r1 H1 => r1 = r ∧ H1 = H' := by
  unfold keyK at hv
  split at hv
  · cases hv; exact key_xs _ _
  · cases hv; exact keyN_xs _
  · cases hv
/-! What is known in the law. -/
noncomputable def O3 : KnownT := addT (addT (addT (addT O1m20 8 (intT kindB)) 35 (intT valV)) 34 keyT) 4 trueT
noncomputable def K3 : Known := addK (addK (addK (addK K1m20 8 (intK kindB)) 35 (intK valV)) 34 keyK) 4 trueK
theorem O3_sim : KSim O3 K3 := addT_sim (addT_sim (addT_sim (addT_sim O1m20_sim (int_ks _)) (int_ks _)) key_ks) true_ks
theorem K3_ok : KnownOk Tryz.prog (fun _ => none) K3 := addK_ok (addK_ok (addK_ok (addK_ok K1m20_ok (int_ok kind_xs)) (int_ok val_xs)) key_ok) fun xs H r H' hv => by
  unfold trueK at hv
  split at hv
  case h_2 => cases hv
  cases hv
  exact closed_xs awake_xs _ H
/-- The truths: the key is too long; it is a key; the kind is none (oth). -/
def W3 (b0 bk oth : Bool) : Nat → Option Ora := fun f => match f with
  | 3 => some fun t => match t with | 20 => some b0 | 48 => some oth | _ => none
  | 9 => some fun _ => none
  | 11 => some fun t => match t with | 14 => some bk | _ => none
  | 29 => some fun t => match t with | 14 => some bk | _ => none
  | 6 => match oth with | true => some fun _ => none | false => none
  | 7 => match oth with | true => some fun _ => none | false => none
  | 18 => match oth with | true => some (fun t => match t with | 4 => some false | 8 => some false | 12 => some false | 16 => some false | _ => none) | false => none
  | _ => none
theorem w3_ok (b0 bk oth : Bool) : ∀ f, (W3 b0 bk oth f).isSome = true → K3 f = none := by
  intro f h
  unfold W3 at h
  split at h <;> first
    | rfl
    | (cases oth <;> first | rfl | (cases h; done))
    | (cases h; done)
end Go.Vi
