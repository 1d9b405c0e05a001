/- Vi, part Fd: one operation on objects in a tree. -/
import Derived.Test.YtecjobmgphdjoaaGreatViFc
set_option autoImplicit false
set_option linter.unusedVariables false
set_option linter.unusedSimpArgs false
namespace Go.Vi

noncomputable def vcopyT (P : Program) (h : HT) (t : TypeId) (d x : AV) : Option (AV × HT) :=
  match elemAt P t, srcRowsT h x with
  | some (none, e, sz), some rows => if lenOk sz rows = true ∧ sz ≠ 0 ∧ (x.isStr = true → sz = 1) then match d with
      | .nils => some (.int .i64 0, h)
      | .row _ l i n => match h.t.get l with
        | some (.arr T sz' N rows0) => if sz' = sz ∧ i + n ≤ N then
            some (.int .i64 (min rows.length n : Nat), h.set l (.arr T sz N (rows0.put i (rows.take (min rows.length n))))) else none
        | _ => none
      | _ => none
    else none
  | _, _ => none
theorem vcopyT_eq {P : Program} {h h' : HT} (k : h.ok) {t : TypeId} {d x v : AV} (hv : vcopyT P h t d x = some (v, h')) : h'.ok ∧ vcopy P h.den t d x = some (v, h'.den) := by
  unfold vcopyT at hv
  split at hv
  · rename_i e sz rows he hs
    have hs' := srcRowsT_eq k hs
    split at hv
    · rename_i hc
      split at hv
      · cases hv
        refine ⟨k, ?_⟩
        unfold vcopy
        simp only [he, hs']
        rw [if_pos hc]
      · rename_i tt l i n
        split at hv
        · rename_i T sz' N rows0 hl
          obtain ⟨g1, g2⟩ := k.at hl
          split at hv
          · rename_i hd
            obtain ⟨rfl, d2⟩ := hd
            cases hv
            have hlen : (rows.take (min rows.length n)).length = min rows.length n := by rw [List.length_take]; omega
            obtain ⟨q1, q2⟩ := Br.ex.put (l := rows.take (min rows.length n)) (i := i) g2 (by rw [hlen]; omega)
            obtain ⟨f1, f2⟩ := k.set (o := .arr T sz' N (rows0.put i (rows.take (min rows.length n)))) hl q1
            refine ⟨f1, ?_⟩
            unfold vcopy
            simp only [he, hs']
            rw [if_pos hc]
            simp only [g1, VT.den]
            rw [if_pos ⟨by simp, by rw [Br.ex.len g2]; exact d2⟩, f2]
            simp only [VT.den, q2, hlen]
          · cases hv
        · cases hv
      · cases hv
    · cases hv
  · cases hv

noncomputable def vclearT (P : Program) (h : HT) (t : TypeId) (x : AV) : Option HT :=
  match x with
  | .nils => some h
  | .list _ [] => some h
  | .row _ l i n => match P.underlying t with
    | some (.slice e) => match szOf P e, zcOf P e, h.t.get l with
      | some sz, some zc, some (.arr T sz' N rows) => if zc.length = sz ∧ sz ≠ 0 ∧ sz' = sz ∧ i + n ≤ N then
          (if n = 0 then some h else some (h.set l (.arr T sz' N (rows.put i (List.replicate n zc))))) else none
      | _, _, _ => none
    | _ => none
  | _ => none
theorem vclearT_eq {P : Program} {h h' : HT} (k : h.ok) {t : TypeId} {x : AV} (hv : vclearT P h t x = some h') : h'.ok ∧ vclear P h.den t x = some h'.den := by
  unfold vclearT at hv
  split at hv
  · cases hv; exact ⟨k, rfl⟩
  · cases hv; exact ⟨k, rfl⟩
  · rename_i tt l i n
    split at hv
    · rename_i e hu
      split at hv
      · rename_i sz zc T sz' N rows hsz hzc hl
        obtain ⟨g1, g2⟩ := k.at hl
        unfold vclear
        simp only [hu, hsz, hzc, g1, VT.den]
        split at hv
        · rename_i hc
          rw [if_pos (by rw [Br.ex.len g2]; exact hc)]
          split at hv
          · rename_i h0
            cases hv
            exact ⟨k, by rw [if_pos h0]⟩
          · rename_i h0
            cases hv
            obtain ⟨q1, q2⟩ := Br.ex.put (l := List.replicate n zc) (i := i) g2 (by rw [List.length_replicate]; exact hc.2.2.2)
            obtain ⟨f1, f2⟩ := k.set (o := .arr T sz' N (rows.put i (List.replicate n zc))) hl q1
            refine ⟨f1, ?_⟩
            rw [if_neg h0, f2]
            simp only [VT.den, q2, List.length_replicate]
        · cases hv
      · cases hv
    · cases hv
  · cases hv

noncomputable def vmakeT (P : Program) (h : HT) (t : TypeId) (ln cp : AV) : Option (AV × HT) :=
  match elemAt P t, ln, cp with
  | some (none, e, sz), .int _ n, .int _ m => match zcOf P e, byOf P e with
    | some zc, some by_ => if zc.length = sz ∧ sz ≠ 0 ∧ by_ ≠ 0 ∧ 0 ≤ n ∧ n ≤ m ∧ m * (by_ : Int) ≤ 140737488355328 then
        some (.row (n == m) h.n 0 n.toNat, h.push (.arr e sz n.toNat (Br.rep zc n.toNat))) else none
    | _, _ => none
  | _, _, _ => none
theorem vmakeT_eq {P : Program} {h h' : HT} (k : h.ok) {t : TypeId} {x y v : AV} (hv : vmakeT P h t x y = some (v, h')) : h'.ok ∧ vmake P h.den t x y = some (v, h'.den) := by
  unfold vmakeT at hv
  split at hv
  · rename_i e sz k1 n k2 m he
    split at hv
    · rename_i zc by_ hzc hby
      split at hv
      · rename_i hc
        cases hv
        obtain ⟨q1, q2⟩ := Br.rep_ex zc n.toNat
        obtain ⟨p1, p2⟩ := k.push (o := .arr e sz n.toNat (Br.rep zc n.toNat)) q1
        refine ⟨p1, ?_⟩
        unfold vmake
        simp only [he, hzc, hby]
        rw [if_pos hc, p2, k.len]
        simp only [VT.den, q2]
      · cases hv
    · cases hv
  · cases hv

noncomputable def vbuildSliceT (P : Program) (h : HT) (t : TypeId) (len : Nat) (ps : List (Nat × AV)) : Option (AV × HT) :=
  match elemAt P t with
  | some (none, e, sz) => match zcOf P e with
    | some zc => if zc.length = sz ∧ sz ≠ 0 ∧ len * sz ≤ 2 ^ 24 then match vfillRows sz (List.replicate len zc) ps with
        | some rows => if rows.length = len then some (.row true h.n 0 len, h.push (.arr e sz len (Br.ofL rows))) else none
        | none => none
      else none
    | none => none
  | _ => none
theorem vbuildSliceT_eq {P : Program} {h h' : HT} (k : h.ok) {t : TypeId} {len : Nat} {ps : List (Nat × AV)} {v : AV} (hv : vbuildSliceT P h t len ps = some (v, h')) : h'.ok ∧ vbuildSlice P h.den t len ps = some (v, h'.den) := by
  unfold vbuildSliceT at hv
  split at hv
  · rename_i e sz he
    split at hv
    · rename_i zc hzc
      split at hv
      · rename_i hc
        split at hv
        · rename_i rows hf
          split at hv
          · rename_i hl
            cases hv
            obtain ⟨q1, q2⟩ := Br.ofL_ex rows
            rw [hl] at q1 q2
            obtain ⟨p1, p2⟩ := k.push (o := .arr e sz len (Br.ofL rows)) q1
            refine ⟨p1, ?_⟩
            unfold vbuildSlice
            simp only [he, hzc]
            rw [if_pos hc]
            simp only [hf]
            rw [p2, k.len]
            simp only [VT.den, q2]
          · cases hv
        · cases hv
      · cases hv
    · cases hv
  · cases hv

noncomputable def vconvT (P : Program) (h : HT) (src dst : TypeId) (x : AV) : Option AV :=
  match x with
  | .row .. | .sub .. => match P.underlying src, P.underlying dst with
    | some (.slice e), some .string => match P.underlying e, rowsOfT h x with
      | some (.int .u8), some rows => (numsOf rows).map fun xs => .str (strOfNums xs)
      | _, _ => none
    | _, _ => none
  | _ => vconv P [] src dst x
theorem vconv_nil {P : Program} {src dst : TypeId} {x v : AV} (H : Hp) (hx : (∀ t l i n, x ≠ .row t l i n) ∧ ∀ l i k e n, x ≠ .sub l i k e n) (h : vconv P [] src dst x = some v) : vconv P H src dst x = some v := by
  unfold vconv at h ⊢
  have hr : ∀ y, rowsOf [] x = some y → rowsOf H x = some y := fun y hy => by
    unfold rowsOf at hy ⊢
    split at hy
    · exact hy
    · exact hy
    · exact absurd rfl (hx.1 _ _ _ _)
    · exact absurd rfl (hx.2 _ _ _ _ _)
    · cases hy
  split at h
  · split at h
    · rename_i h1 h2
      rw [h1, hr _ h2]
      exact h
    · cases h
  · exact h
  · exact h
theorem vconvT_eq {P : Program} {h : HT} (k : h.ok) {src dst : TypeId} {x v : AV} (hv : vconvT P h src dst x = some v) : vconv P h.den src dst x = some v := by
  have key : (match P.underlying src, P.underlying dst with
    | some (.slice e), some .string => match P.underlying e, rowsOfT h x with
      | some (.int .u8), some rows => (numsOf rows).map fun xs => AV.str (strOfNums xs)
      | _, _ => none
    | _, _ => none) = some v → vconv P h.den src dst x = some v := fun hv => by
    split at hv
    · rename_i e h1 h2
      split at hv
      · rename_i rows h3 h4
        unfold vconv
        rw [h1, h2]
        simp only [h3, rowsOfT_eq k h4]
        exact hv
      · cases hv
    · cases hv
  unfold vconvT at hv
  split at hv
  · exact key hv
  · exact key hv
  · rename_i h1 h2
    exact vconv_nil _ ⟨fun t l i n e => h1 _ _ _ _ e, fun l i kk e n ee => h2 _ _ _ _ _ ee⟩ hv

noncomputable def vconvSameT (P : Program) (h : HT) (src dst : TypeId) (x : AV) : Option (AV × HT) :=
  match P.underlying dst, x with
  | some (.slice e), .row t l i n => match P.underlying e, h.t.get l with
    | some (.int .u8), some (.arr T sz N rows) => if src = dst ∧ allVal (rows.seg 0 N) = true then some (.row t l i n, h.set l (.frz sz N rows)) else none
    | _, _ => none
  | _, _ => none
theorem vconvSameT_eq {P : Program} {h h' : HT} (k : h.ok) {src dst : TypeId} {x v : AV} (hv : vconvSameT P h src dst x = some (v, h')) : h'.ok ∧ vconvSame P h.den src dst x = some (v, h'.den) := by
  unfold vconvSameT at hv
  split at hv
  · rename_i e t l i n hu
    split at hv
    · rename_i T sz N rows he hl
      obtain ⟨g1, g2⟩ := k.at hl
      split at hv
      · rename_i hc
        cases hv
        obtain ⟨f1, f2⟩ := k.set (o := .frz sz N rows) hl g2
        refine ⟨f1, ?_⟩
        unfold vconvSame
        simp only [hu, he, g1, VT.den]
        have h0 : rows.seg 0 N = rows.toL N := by rw [Br.ex.seg g2 (by omega), List.drop_zero, List.take_of_length_le (by rw [Br.ex.len g2]; omega)]
        rw [h0] at hc
        rw [if_pos hc, f2]
        rfl
      · cases hv
    · cases hv
  · cases hv

/-! ### Maps -/
noncomputable def mapAt (h : HT) (l : Nat) : Option (List (Int × AV)) := match h.t.get l with
  | some (.map es) => some es
  | _ => none
theorem mapAt_eq {h : HT} (k : h.ok) {l : Nat} {es : List (Int × AV)} (hv : mapAt h l = some es) : h.t.get l = some (.map es) ∧ h.den[l]? = some (.map es) := by
  unfold mapAt at hv
  split at hv
  · rename_i es' hl
    cases hv
    exact ⟨hl, (k.at hl).1⟩
  · cases hv
noncomputable def vlookupT (P : Program) (h : HT) (t : TypeId) (x k : AV) (ok : Bool) : Option AV :=
  match intMap P t, x, k with
  | some et, .mapr l, .int .i64 n => match mapAt h l with
    | some es => match mfind n es 0 with
      | some (_, v) => some (if ok = true then .tup [v, .bool true] else v)
      | none => (zrOf P et).map fun v => if ok = true then .tup [v, .bool false] else v
    | none => none
  | _, _, _ => none
theorem vlookupT_eq {P : Program} {h : HT} (k : h.ok) {t : TypeId} {x y v : AV} {b : Bool} (hv : vlookupT P h t x y b = some v) : vlookup P h.den t x y b = some v := by
  unfold vlookupT at hv
  split at hv
  · rename_i et l n he
    split at hv
    · rename_i es hm
      unfold vlookup
      simp only [he, (mapAt_eq k hm).2]
      exact hv
    · cases hv
  · cases hv
noncomputable def vmapUpdateT (P : Program) (h : HT) (t : TypeId) (x k v : AV) : Option HT :=
  match intMap P t, x, k with
  | some _, .mapr l, .int .i64 n => match mapAt h l with
    | some es => some (h.set l (.map (mset n v es)))
    | none => none
  | _, _, _ => none
theorem vmapUpdateT_eq {P : Program} {h h' : HT} (k : h.ok) {t : TypeId} {x y v : AV} (hv : vmapUpdateT P h t x y v = some h') : h'.ok ∧ vmapUpdate P h.den t x y v = some h'.den := by
  unfold vmapUpdateT at hv
  split at hv
  · rename_i et l n he
    split at hv
    · rename_i es hm
      cases hv
      obtain ⟨m1, m2⟩ := mapAt_eq k hm
      obtain ⟨f1, f2⟩ := k.set (o := .map (mset n v es)) m1 trivial
      refine ⟨f1, ?_⟩
      unfold vmapUpdate
      simp only [he, m2]
      rw [f2]
      rfl
    · cases hv
  · cases hv
noncomputable def vrangeT (P : Program) (h : HT) (t : TypeId) (x : AV) : Option (AV × HT) :=
  match intMap P t, x with
  | some _, .mapr l => match mapAt h l with
    | some es => some (.ptr h.n 0 0, h.push (.iter l es.length []))
    | none => none
  | _, _ => none
theorem vrangeT_eq {P : Program} {h h' : HT} (k : h.ok) {t : TypeId} {x v : AV} (hv : vrangeT P h t x = some (v, h')) : h'.ok ∧ vrange P h.den t x = some (v, h'.den) := by
  unfold vrangeT at hv
  split at hv
  · rename_i et l he
    split at hv
    · rename_i es hm
      cases hv
      obtain ⟨m1, m2⟩ := mapAt_eq k hm
      obtain ⟨f1, f2⟩ := k.push (o := .iter l es.length []) trivial
      refine ⟨f1, ?_⟩
      unfold vrange
      simp only [he, m2]
      rw [f2, k.len]
      rfl
    · cases hv
  · cases hv
noncomputable def iterAt (h : HT) (l : Nat) : Option (Nat × Nat × List Nat) := match h.t.get l with
  | some (.iter m n seen) => some (m, n, seen)
  | _ => none
theorem iterAt_eq {h : HT} (k : h.ok) {l m n : Nat} {seen : List Nat} (hv : iterAt h l = some (m, n, seen)) : h.t.get l = some (.iter m n seen) ∧ h.den[l]? = some (.iter m n seen) := by
  unfold iterAt at hv
  split at hv
  · rename_i m' n' s' hl
    cases hv
    exact ⟨hl, (k.at hl).1⟩
  · cases hv
noncomputable def ventryT (h : HT) (x : AV) : Option AV :=
  match x with
  | .ptr li 0 0 => match iterAt h li with
    | some (l, n, seen) => match seen.getLast?, mapAt h l with
      | some j, some es => if es.length = n then (es[j]?).map fun e => .tup [.int .i64 e.1, e.2] else none
      | _, _ => none
    | none => none
  | _ => none
theorem ventryT_eq {h : HT} (k : h.ok) {x v : AV} (hv : ventryT h x = some v) : ventry h.den x = some v := by
  unfold ventryT at hv
  split at hv
  · rename_i li
    split at hv
    · rename_i l n seen hi
      split at hv
      · rename_i j es hj hm
        unfold ventry
        simp only [(iterAt_eq k hi).2, hj, (mapAt_eq k hm).2]
        exact hv
      · cases hv
    · cases hv
  · cases hv
noncomputable def fnext (h : HT) (x : AV) : Option (AV × HT) :=
  match x with
  | .ptr li 0 0 => match iterAt h li with
    | some (l, n, seen) => match mapAt h l with
      | some es => if es.length = n then match (List.range n).filter (fun j => !seen.contains j) with
          | [] => some (.tup [.bool false], h)
          | [j] => match es[j]? with
            | some e => some (.tup [.bool true, .int .i64 e.1, e.2], h.set li (.iter l n (seen ++ [j])))
            | none => none
          | _ => none
        else none
      | none => none
    | none => none
  | _ => none
theorem fnext_eq {h h' : HT} (k : h.ok) {x v : AV} (hv : fnext h x = some (v, h')) : h'.ok ∧ enext h.den x = some (v, h'.den) := by
  unfold fnext at hv
  split at hv
  · rename_i li
    split at hv
    · rename_i l n seen hi
      obtain ⟨i1, i2⟩ := iterAt_eq k hi
      split at hv
      · rename_i es hm
        unfold enext
        simp only [i2, (mapAt_eq k hm).2]
        split at hv
        · rename_i hn
          rw [if_pos hn]
          split at hv
          · rename_i hf
            cases hv
            rw [hf]
            exact ⟨k, rfl⟩
          · rename_i j hf
            split at hv
            · rename_i e he
              cases hv
              obtain ⟨f1, f2⟩ := k.set (o := .iter l n (seen ++ [j])) i1 trivial
              rw [hf]
              simp only [he]
              exact ⟨f1, by rw [f2]; rfl⟩
            · cases hv
          · cases hv
        · cases hv
      · cases hv
    · cases hv
  · cases hv
end Go.Vi
