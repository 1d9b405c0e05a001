/- Vi, part Ro: calls that are computed, some of them by what is known of them. -/
import Derived.Test.YtodhknjjjhmpfaaGreatViR
set_option autoImplicit false
set_option linter.unusedVariables false
set_option linter.unusedSimpArgs false
namespace Go.Vi

/-- Functions of which what they do is known. -/
abbrev Known := Nat → Option (List AV → Hp → Option (AV × Hp))
def KnownOk (P : Program) (G : Glob) (O : Known) : Prop := ∀ g k, O g = some k → ∀ xs H r H', k xs H = some (r, H') → XS P G g xs H fun r1 H1 => r1 = r ∧ H1 = H'

def erunO (P : Program) (md : Nat → Oper → Md) (G : Glob) (O : Known) (n : Nat) : Nat → Rec
  | 0, _, _, _ => none
  | d + 1, f, args, H => match O f with
    | some k => k args H
    | none => match P.funcs[f]? with
      | some fn => match fn.body with
        | some code => efin P fn (ecode (erunO P md G O n d) P (md f) G n code (args ++ List.replicate (fn.ntmps - args.length) .undef) H)
        | none => none
      | none => none

theorem erunO_ok (P : Program) (md : Nat → Oper → Md) (G : Glob) (O : Known) (hO : KnownOk P G O) (n : Nat) : ∀ (d : Nat), RecOk P G (erunO P md G O n d)
  | 0 => fun g xs H r H' h => by cases h
  | d + 1 => fun f args H r H' h => by
    simp only [erunO] at h
    split at h
    · rename_i p hp
      exact hO f p hp args H r H' h
    split at h
    · rename_i fn hf
      split at h
      · rename_i code hb
        refine (XS.pre P G).body f fn code (md f) args H _ hf hb ?_
        generalize hc : ecode (erunO P md G O n d) P (md f) G n code (args ++ List.replicate (fn.ntmps - args.length) .undef) H = res at h
        cases res with
        | none => cases h
        | some p =>
          obtain ⟨e, env', H1⟩ := p
          refine ecode_sound (erunO_ok P md G O hO n d) code _ _ H e env' H1 hc ?_
          cases e <;> first
            | (obtain ⟨z, h1, h2⟩ := map_some h
               simp only [fnQ, h1]
               cases h2
               exact ⟨rfl, rfl⟩)
            | (cases h; done)
      · cases h
    · cases h
end Go.Vi
