/- Vi, part Fc: append, copy, maps .. on objects in a tree; one operation. -/
import Derived.Test.YtecjobmgphdjoaaGreatViFb
set_option autoImplicit false
set_option linter.unusedVariables false
set_option linter.unusedSimpArgs false
namespace Go.Vi

noncomputable def newsT (P : Program) (h : HT) (d2 : TypeDesc) (by_ : Nat) (zc : List AV) (x : AV) : Option (List (List AV)) :=
  if isInt d2 = true then match x with
    | .int _ n => if 0 ≤ n ∧ n * (by_ : Int) ≤ 140737488355328 then some (List.replicate n.toNat zc) else none
    | _ => none
  else srcRowsT h x
theorem newsT_eq {P : Program} {h : HT} (k : h.ok) {d2 : TypeDesc} {by_ : Nat} {zc : List AV} {x : AV} {news : List (List AV)} (hv : newsT P h d2 by_ zc x = some news) : newsOf P h.den d2 by_ zc x = some news := by
  unfold newsT at hv
  unfold newsOf
  split at hv
  · rename_i hi; rw [if_pos hi]; exact hv
  · rename_i hi; rw [if_neg hi]; exact srcRowsT_eq k hv

/-- Rows of an object, and more behind them. -/
noncomputable def moreT (i n N : Nat) (rows : Br (List AV)) (news : List (List AV)) : Br (List AV) := if i = 0 ∧ n = N then rows.put n news else Br.ofL (rows.seg i n ++ news)
theorem moreT_eq {i n N : Nat} {rows : Br (List AV)} {news : List (List AV)} (e : rows.ex N) (hi : i + n ≤ N) : (moreT i n N rows news).ex (n + news.length) ∧ (moreT i n N rows news).toL (n + news.length) = ((rows.toL N).drop i).take n ++ news := by
  unfold moreT
  split
  · rename_i hc
    obtain ⟨rfl, rfl⟩ := hc
    obtain ⟨f1, f2⟩ := e.puts (l := news)
    refine ⟨f1, ?_⟩
    rw [f2, List.drop_zero, List.take_of_length_le (by rw [e.len]; omega)]
  · have hl : (rows.seg i n ++ news).length = n + news.length := by
      rw [e.seg hi, List.length_append, List.length_take, List.length_drop, e.len]; omega
    obtain ⟨f1, f2⟩ := Br.ofL_ex (rows.seg i n ++ news)
    rw [hl] at f1 f2
    exact ⟨f1, by rw [f2, e.seg hi]⟩

noncomputable def vappT (P : Program) (h : HT) (t t2 : TypeId) (s x : AV) : Option (AV × HT) :=
  match elemAt P t, P.underlying t2 with
  | some (none, e, sz), some d2 => match zcOf P e, byOf P e with
    | some zc, some by_ => match newsT P h d2 by_ zc x with
      | some news => if (zc.length = sz ∧ sz ≠ 0 ∧ by_ ≠ 0) ∧ lenOk sz news = true ∧ (x.isStr = true → sz = 1) ∧ s.isSlice = true then
        match news.length with
        | 0 => if isInt d2 = true then none else some (s, h)
        | m + 1 => match s with
          | .row false l i n => match h.t.get l with
            | some (.arr T' sz' N rows) => if (T' = e ∧ sz' = sz) ∧ i + n ≤ N then
                (if i + n + (m + 1) ≤ N then some (.row false l i (n + (m + 1)), h.set l (.arr T' sz' N (rows.put (i + n) news)))
                else if (n + (m + 1)) * by_ ≤ 140737488355328 then some (.row false h.n 0 (n + (m + 1)), (h.set l .dead).push (.arr e sz (n + (m + 1)) (moreT i n N rows news))) else none)
              else none
            | _ => none
          | .row true l i n => match h.t.get l with
            | some (.arr T' sz' N rows) => if (sz' = sz ∧ i + n ≤ N) ∧ lenOk sz (rows.seg i n) = true ∧ (n + (m + 1)) * by_ ≤ 140737488355328 then some (.row false h.n 0 (n + (m + 1)), h.push (.arr e sz (n + (m + 1)) (moreT i n N rows news))) else none
            | _ => none
          | .nils => if (m + 1) * by_ ≤ 140737488355328 then some (.row false h.n 0 (m + 1), h.push (.arr e sz (m + 1) (Br.ofL news))) else none
          | .list .tight old => if isInt d2 = false ∧ lenOk sz old = true ∧ (old.length + (m + 1)) * by_ ≤ 140737488355328 then some (.row false h.n 0 (old.length + (m + 1)), h.push (.arr e sz (old.length + (m + 1)) (Br.ofL (old ++ news)))) else none
          | _ => none
        else none
      | none => none
    | _, _ => none
  | _, _ => none

/-- What the list-level append does, its three forms tried one behind the other. -/
def vapp3 (P : Program) (H : Hp) (t t2 : TypeId) (s x : AV) : Option (AV × Hp) :=
  match vappIn P H t t2 s x with
  | some r => some r
  | none => match vappZ P H t t2 s x with
    | some r => some r
    | none => vappendR P H t t2 s x

theorem vappT_eq {P : Program} {h h' : HT} (k : h.ok) {t t2 : TypeId} {s x v : AV} (hv : vappT P h t t2 s x = some (v, h')) : h'.ok ∧ vapp3 P h.den t t2 s x = some (v, h'.den) := by
  unfold vappT at hv
  split at hv
  · rename_i e sz d2 he hu2
    split at hv
    · rename_i zc by_ hzc hby
      split at hv
      · rename_i news hnews
        have hn := newsT_eq k hnews
        split at hv
        · rename_i hc
          obtain ⟨⟨c1, c2, c3⟩, c4, c5, c6⟩ := hc
          split at hv
          · rename_i h0
            split at hv
            · cases hv
            · rename_i hi
              cases hv
              refine ⟨k, ?_⟩
              have e1 : vappIn P h.den t t2 s x = none := by
                unfold vappIn
                split
                · simp only [he, hu2, hzc, hby]
                  split
                  · rename_i zc' by' T'' sz'' rows'' q1 q2 q3
                    cases q1
                    cases q2
                    rw [hn]; simp only; rw [if_neg (fun hx => hx.2.2.2.1 h0)]
                  · rfl
                · rfl
              have e2 : vappZ P h.den t t2 s x = none := by
                unfold vappZ
                simp only [he, hu2, if_neg hi]
              have e3 : vappendR P h.den t t2 s x = some (s, h.den) := by
                unfold newsOf at hn
                rw [if_neg hi] at hn
                unfold vappendR vappendF
                simp only [he, hu2, if_neg hi, hzc, hby, hn]
                rw [if_pos ⟨c1, c2, c3, c4, c5, c6⟩, if_pos h0]
              unfold vapp3
              rw [e1]; simp only; rw [e2]; simp only; exact e3
          · rename_i m hm
            have hne : news.length ≠ 0 := by omega
            -- the forms behind the first
            have back : ∀ {v' : AV} {H' : Hp}, vappIn P h.den t t2 s x = none → (isInt d2 = true → vappZ P h.den t t2 s x = some (v', H')) → (isInt d2 = false → vappendR P h.den t t2 s x = some (v', H')) → vapp3 P h.den t t2 s x = some (v', H') := by
              intro v' H' e1 e2 e3
              unfold vapp3
              rw [e1]
              simp only
              by_cases hi : isInt d2 = true
              · rw [e2 hi]
              · have e4 : vappZ P h.den t t2 s x = none := by
                  unfold vappZ
                  simp only [he, hu2, if_neg hi]
                rw [e4]
                exact e3 (by simpa using hi)
            have srcs : isInt d2 = false → srcRows h.den x = some news := fun hi => by
              unfold newsOf at hn
              rwa [if_neg (by simp [hi])] at hn
            split at hv
            · rename_i l i n
              split at hv
              · rename_i T' sz' N rows hl
                obtain ⟨g1, g2⟩ := k.at hl
                split at hv
                · rename_i hd
                  obtain ⟨⟨rfl, rfl⟩, d2'⟩ := hd
                  split at hv
                  · rename_i hfit
                    cases hv
                    obtain ⟨q1, q2⟩ := Br.ex.put (l := news) (i := i + n) g2 (by omega)
                    obtain ⟨f1, f2⟩ := k.set (o := .arr T' sz' N (rows.put (i + n) news)) hl q1
                    refine ⟨f1, ?_⟩
                    have e1 : vappIn P h.den t t2 (.row false l i n) x = some (.row false l i (n + (m + 1)), (h.set l (.arr T' sz' N (rows.put (i + n) news))).den) := by
                      unfold vappIn
                      simp only [he, hu2, hzc, hby, g1, VT.den, hn]
                      rw [if_pos ⟨⟨c1, c2, c3, c4, c5⟩, by simp, by simp, hne, by rw [Br.ex.len g2]; omega⟩, f2]
                      simp only [VT.den, q2, hm]
                    unfold vapp3
                    rw [e1]
                  · rename_i hfit
                    split at hv
                    · rename_i hby2
                      cases hv
                      obtain ⟨q1, q2⟩ := moreT_eq (news := news) g2 d2'
                      rw [hm] at q1 q2
                      obtain ⟨f1, f2⟩ := k.set (o := .dead) hl trivial
                      obtain ⟨p1, p2⟩ := f1.push (o := .arr T' sz' (n + (m + 1)) (moreT i n N rows news)) q1
                      refine ⟨p1, ?_⟩
                      have hlen : (h.set l .dead).den.length = h.n := f1.len
                      rw [p2, f2]
                      simp only [VT.den, q2]
                      refine back ?_ (fun hi => ?_) (fun hi => ?_)
                      · unfold vappIn
                        simp only [he, hu2, hzc, hby, g1, VT.den, hn]
                        rw [if_neg (fun hx => by have := hx.2.2.2.2; rw [Br.ex.len g2] at this; omega)]
                      · unfold vappZ
                        simp only [he, hu2, hzc, hby, g1, VT.den, hn]
                        rw [if_pos hi, if_pos ⟨⟨c1, c2, c3, c4⟩, hne⟩]
                        rw [if_pos ⟨⟨by simp, by simp⟩, by rw [Br.ex.len g2]; exact d2', by rw [hm]; exact hby2⟩, k.len, hm]
                      · unfold vappendR vappendF
                        simp only [he, hu2, hzc, hby, srcs hi, hi]
                        rw [if_neg (by simp), if_pos ⟨c1, c2, c3, c4, c5, c6⟩, if_neg hne]
                        simp only [g1, VT.den]
                        rw [if_pos ⟨⟨by simp, by simp⟩, by rw [Br.ex.len g2]; exact d2', by rw [hm]; exact hby2⟩, k.len, hm]
                    · cases hv
                · cases hv
              · cases hv
            · rename_i l i n
              split at hv
              · rename_i T' sz' N rows hl
                obtain ⟨g1, g2⟩ := k.at hl
                split at hv
                · rename_i hd
                  obtain ⟨⟨rfl, d2'⟩, d3, d4⟩ := hd
                  cases hv
                  obtain ⟨q1, q2⟩ := moreT_eq (news := news) g2 d2'
                  rw [hm] at q1 q2
                  obtain ⟨p1, p2⟩ := k.push (o := .arr e sz' (n + (m + 1)) (moreT i n N rows news)) q1
                  refine ⟨p1, ?_⟩
                  rw [p2]
                  simp only [VT.den, q2]
                  have hold : rowsOf h.den (.row true l i n) = some (((rows.toL N).drop i).take n) := by
                    simp only [rowsOf, g1, VT.den]
                    rw [if_pos (by rw [Br.ex.len g2]; exact d2')]
                  have hol : (((rows.toL N).drop i).take n).length = n := by rw [List.length_take, List.length_drop, Br.ex.len g2]; omega
                  rw [Br.ex.seg g2 d2'] at d3
                  refine back (by unfold vappIn; rfl) (fun hi => ?_) (fun hi => ?_)
                  · unfold vappZ
                    simp only [he, hu2, hzc, hby, hn]
                    rw [if_pos hi, if_pos ⟨⟨c1, c2, c3, c4⟩, hne⟩]
                    simp only [hold]
                    rw [if_pos ⟨d3, by rw [hol, hm]; exact d4⟩, k.len, hol, hm]
                  · unfold vappendR vappendF
                    simp only [he, hu2, hzc, hby, srcs hi, hi]
                    rw [if_neg (by simp), if_pos ⟨c1, c2, c3, c4, c5, c6⟩, if_neg hne]
                    simp only [hold]
                    rw [if_pos ⟨d3, by rw [hol, hm]; exact d4⟩, k.len, hol, hm]
                · cases hv
              · cases hv
            · split at hv
              · rename_i hb
                cases hv
                obtain ⟨q1, q2⟩ := Br.ofL_ex news
                rw [hm] at q1 q2
                obtain ⟨p1, p2⟩ := k.push (o := .arr e sz (m + 1) (Br.ofL news)) q1
                refine ⟨p1, ?_⟩
                rw [p2]
                simp only [VT.den, q2]
                refine back (by unfold vappIn; rfl) (fun hi => ?_) (fun hi => ?_)
                · unfold vappZ
                  simp only [he, hu2, hzc, hby, hn]
                  rw [if_pos hi, if_pos ⟨⟨c1, c2, c3, c4⟩, hne⟩]
                  simp only [List.length_nil, Nat.zero_add, List.nil_append]
                  rw [if_pos ⟨rfl, by rw [hm]; exact hb⟩, k.len, hm]
                · unfold vappendR vappendF
                  simp only [he, hu2, hzc, hby, srcs hi, hi]
                  rw [if_neg (by simp), if_pos ⟨c1, c2, c3, c4, c5, c6⟩, if_neg hne]
                  rw [if_pos (by rw [hm]; exact hb), k.len, hm]
              · cases hv
            · rename_i old
              split at hv
              · rename_i hb
                obtain ⟨b1, b2, b3⟩ := hb
                cases hv
                obtain ⟨q1, q2⟩ := Br.ofL_ex (old ++ news)
                rw [List.length_append, hm] at q1 q2
                obtain ⟨p1, p2⟩ := k.push (o := .arr e sz (old.length + (m + 1)) (Br.ofL (old ++ news))) q1
                refine ⟨p1, ?_⟩
                rw [p2]
                simp only [VT.den, q2]
                refine back (by unfold vappIn; rfl) (fun hi => by rw [b1] at hi; cases hi) (fun hi => ?_)
                unfold vappendR vappendF
                simp only [he, hu2, hzc, hby, srcs hi, hi]
                rw [if_neg (by simp), if_pos ⟨c1, c2, c3, c4, c5, c6⟩, if_neg hne]
                rw [if_pos ⟨b2, by rw [hm]; exact b3⟩, k.len, hm]
              · cases hv
            · cases hv
        · cases hv
      · cases hv
    · cases hv
  · cases hv
end Go.Vi
