/- The keys of a map, sorted: what maps.Keys and slices.Sorted give (by the library's contracts). -/
import Derived.Test.YteejggadbifdbaaGreatNrKl
import Derived.Test.YteejggadbifdbaaGreatNrV
set_option autoImplicit false
set_option linter.unusedVariables false
set_option linter.unusedSimpArgs false
set_option maxRecDepth 100000
namespace Go.Vi
open Go Go.Proofs Go.RowKit Go.Maps Go.Sort Go.Shelf
/-- New blocks that stay as they are. -/
theorem To.grown {c : Cx} {H : Hp} (s : Sim c H) {w' : World} (N : Nat → Prop) (hN : ∀ b, N b → c.w.heap.size ≤ b ∧ b < w'.heap.size) (hsz : c.w.heap.size ≤ w'.heap.size) (hh : ∀ b, b < c.w.heap.size → w'.heap[b]? = c.w.heap[b]?) (h1 : w'.os = c.w.os) (h2 : w'.tape = c.w.tape) (h3 : w'.output = c.w.output) :
    To c H { c with w := w', I := fun b => c.I b ∨ N b } H := by
  have m : Mono c { c with w := w', I := fun b => c.I b ∨ N b } := ⟨fun _ h => .inl h, fun _ h => h, fun _ _ h => h, fun b h => hh b (h.elim (s.bound b) (s.boundB b))⟩
  refine ⟨⟨m, hsz, fun b hb _ => hh b hb, fun b h => h.elim .inl (fun e => .inr (.inl (hN b e).1)), fun _ => Iff.rfl, fun _ _ h => .inl h, h1, h2, h3⟩, ⟨fun b hb => ?_, fun b hb => ?_, fun l o h => ?_, s.inj, s.fresh⟩, Nat.le_refl _, fun _ _ h => h⟩
  · show b < w'.heap.size
    rcases hb with hb | hb
    · have := s.bound b hb; omega
    · exact (hN b hb).2
  · show b < w'.heap.size
    have := s.boundB b hb; omega
  · refine (s.obj l o h).keep m (fun cl hr hv hi => ?_) (fun _ h => h) (fun cl hr hv => hh _ (s.lt (live_of h hv) hr))
    rcases hi with hi | hi
    · exact hi
    · have := s.lt (live_of h hv) hr; have := (hN _ hi).1; omega
theorem kSorts (m : Nat) : AnyZI.SortsIn Tryz.prog Tryz.sortedA_ren Fence.wide m :=
  ⟨fun blk off cap ss W hH hblk hsz => callsIn_wide.2 (AnyM.slices_Sort_int Tryz.sortA blk off cap ss W hH hblk hsz),
   fun p cap W => callsIn_wide.2 (AnyM.slices_Sort_int_none Tryz.sortA p cap W)⟩
theorem kKeys (mb : Option Nat) (W : World) : Calls Tryz.prog 183 #[.map mb] W fun e w' => e = .returned (.func (.func 214) #[] #[.pointer (some ⟨W.heap.size, 0, none⟩)]) ∧ w' = W.alloc (.cells #[.map mb] 219) :=
  (callsIn_wide (n := 6)).1 (AnyZI.keys_in Tryz.keysA Fence.wide 6 trivial rfl mb W)
theorem kSorted {H : Type} (Bm b nn : Nat) (D0 : DataW H) (R : Value → Option (DataW H × List MemPlace)) (w : World) (hBm : Bm < w.heap.size) (hm : w.cell? ⟨Bm, 0, none⟩ = some (.map (some b))) (hown : w.ownsMap Tryz.prog 3 R b nn D0) (hmax : Maps.size D0 ≤ maxLen) (hbytes : Maps.size D0 * 8 ≤ 140737488355328) :
    Calls Tryz.prog 182 #[.func (.func 214) #[] #[.pointer (some ⟨Bm, 0, none⟩)]] w fun e w' => ∃ (v : Value) (ss : List Int), e = .returned v ∧ ss.Perm (intKeys D0) ∧
      w'.ownsRow w.heap.size 3 1 v ss.length ((ss.mergeSort (fun x y => decide (x ≤ y))).map encZ) ∧ (v = .slice none 0 0 ↔ ss = []) ∧ Below w.heap.size w w' := by
  have hseq : SeqGives Fence.wide 2 Tryz.prog 214 #[.pointer (some ⟨Bm, 0, none⟩)] encZ (fun ss => ss.Perm (intKeys D0)) (Maps.size D0) w :=
    AnyZI.keys_gives (ρ := Tryz.keysA_ren) { Tryz.keysA with } Fence.wide _ trivial rfl (by omega) Bm b nn D0 _ hBm hm hown
  have cS := AnyZI.sorted_in Tryz.sortedA Fence.wide 5 trivial trivial trivial trivial rfl (by omega) (kSorts _) (enters_of Tryz.func135 (by kernel_rfl) rfl) 214 #[.pointer (some ⟨Bm, 0, none⟩)] trivial (enters_of Tryz.func214 (by kernel_rfl) rfl) _ _ hmax hbytes _ hseq
  exact (callsIn_wide (n := 5)).1 cS
/-- How the entries of a map of numbers read. -/
def kR : Value → Option (DataW Unit × List MemPlace) := fun _ => some (.nil, [])
theorem insert_perm {H : Type} (x : Lit × DataW H) : ∀ (l : List (Lit × DataW H)), ((DataW.insert x l).map fun p => intOf p.1).Perm (intOf x.1 :: l.map fun p => intOf p.1)
  | [] => .refl _
  | y :: r => by
    unfold DataW.insert
    split
    · exact .refl _
    · exact ((insert_perm x r).cons _).trans (.swap _ _ _)
theorem insert_len {H : Type} (x : Lit × DataW H) : ∀ (l : List (Lit × DataW H)), (DataW.insert x l).length = l.length + 1
  | [] => rfl
  | y :: r => by
    unfold DataW.insert
    split
    · rfl
    · simp [insert_len x r]
theorem fold_perm {H : Type} : ∀ (l : List (Lit × DataW H)), ((l.foldr DataW.insert []).map fun p => intOf p.1).Perm (l.map fun p => intOf p.1)
  | [] => .refl _
  | x :: r => (insert_perm x _).trans ((fold_perm r).cons _)
theorem fold_len {H : Type} : ∀ (l : List (Lit × DataW H)), (l.foldr DataW.insert []).length = l.length
  | [] => rfl
  | x :: r => by simp [insert_len, fold_len r]
theorem own_map {w : World} {b : Nat} {ms : Array MapEntry} {es : List (Int × AV)} (hb : w.heap[b]? = some (.map ms es.length)) (h : ∀ (j : Nat) (e : Int × AV), es[j]? = some e → ∃ V, ms[j]? = some ⟨.int .i64 e.1, V, j⟩) (hl : ms.size = es.length) (hnd : (es.map (·.1)).Nodup) (hk : ∀ e ∈ es, 0 ≤ e.1 ∧ e.1 ≤ 1000000) (hn : es.length ≤ 1000000) :
    w.ownsMap Tryz.prog 3 kR b es.length (.map ((ms.toList.map (WideElems.rg Tryz.prog 3 kR)).foldr DataW.insert [])) ∧ (ms.toList.map fun m => intOf (WideElems.rg Tryz.prog 3 kR m).1) = es.map (·.1) := by
  have hget : ∀ (j : Nat) (m : MapEntry), ms.toList[j]? = some m → ∃ e V, es[j]? = some e ∧ m = ⟨.int .i64 e.1, V, j⟩ := fun j m hm => by
    have hj : j < es.length := by rw [← hl]; simpa using (List.getElem?_eq_some_iff.1 hm).1
    obtain ⟨V, hV⟩ := h j es[j] (List.getElem?_eq_getElem hj)
    have : ms[j]? = some m := by simpa using hm
    rw [hV] at this
    exact ⟨es[j], V, List.getElem?_eq_getElem hj, (Option.some.inj this).symm⟩
  have hrd : ∀ (e : Int × AV) (V : Value) (j : Nat), e ∈ es → WideElems.rd Tryz.prog 3 kR ⟨.int .i64 e.1, V, j⟩ = some (.int .i64 e.1, .nil) := fun e V j he => by
    have hw : (Lit.int .i64 e.1).wf = true := by
      have := hk e he
      have h1 : IntKind.i64.min = -9223372036854775808 := by decide
      have h2 : IntKind.i64.max = 9223372036854775807 := by decide
      simp only [Lit.wf, Bool.and_eq_true, decide_eq_true_eq]
      omega
    simp only [WideElems.rd, keyOf_int_mk Tryz.underlying3 hw, Option.bind_some, kR, Option.map_some]
  have hkeys : (ms.toList.map fun m => intOf (WideElems.rg Tryz.prog 3 kR m).1) = es.map (·.1) := by
    apply List.ext_getElem?
    intro j
    rw [List.getElem?_map, List.getElem?_map]
    cases hm : ms.toList[j]? with
    | none =>
      have : es[j]? = none := List.getElem?_eq_none (by rw [← hl]; simpa using List.getElem?_eq_none_iff.1 hm)
      rw [this]; rfl
    | some m =>
      obtain ⟨e, V, he, rfl⟩ := hget j m hm
      rw [he]
      simp only [Option.map_some, WideElems.rg, hrd e V j (List.mem_of_getElem? he), Option.getD_some, intOf]
  have hml : maxLen = 1152921504606846976 ∨ 1000000 ≤ maxLen := .inr (by decide)
  refine ⟨⟨ms, es.length, hb, ⟨by have := hml.elim (fun h => by omega) id; omega, ⟨fun x hx => ?_, ?_, ?_⟩, fun x hx => ?_⟩, by omega, rfl⟩, hkeys⟩
  · obtain ⟨j, hj⟩ := List.mem_iff_getElem?.1 hx
    obtain ⟨e, V, he, rfl⟩ := hget j x hj
    exact (List.getElem?_eq_some_iff.1 he).1
  · have : ms.toList.map (·.born) = List.range es.length := by
      apply List.ext_getElem?
      intro j
      rw [List.getElem?_map]
      cases hm : ms.toList[j]? with
      | none =>
        have := List.getElem?_eq_none_iff.1 hm
        rw [List.getElem?_eq_none (by rw [List.length_range, ← hl]; simpa using this)]; rfl
      | some m =>
        obtain ⟨e, V, he, rfl⟩ := hget j m hm
        rw [List.getElem?_range (List.getElem?_eq_some_iff.1 he).1]; rfl
    rw [this]
    exact List.nodup_range
  · have : ms.toList.map (·.key) = (es.map (·.1)).map (Value.int .i64) := by
      apply List.ext_getElem?
      intro j
      rw [List.getElem?_map, List.getElem?_map, List.getElem?_map]
      cases hm : ms.toList[j]? with
      | none =>
        have := List.getElem?_eq_none_iff.1 hm
        rw [List.getElem?_eq_none (l := es) (by rw [← hl]; simpa using this)]; rfl
      | some m =>
        obtain ⟨e, V, he, rfl⟩ := hget j m hm
        rw [he]; rfl
    rw [this]
    exact List.Pairwise.map _ (fun a b hab hc => hab (by simpa using hc)) hnd
  · obtain ⟨j, hj⟩ := List.mem_iff_getElem?.1 hx
    obtain ⟨e, V, he, rfl⟩ := hget j x hj
    exact ⟨_, hrd e V j (List.mem_of_getElem? he)⟩
def iRow (k : Int) : List AV := [.int .i64 k]
def plistK (pgs : List (List AV)) : AV := if pgs = [] then .nils else .list .loose pgs
def sortI (l : List Int) : List Int := l.mergeSort fun x y => decide (x ≤ y)
/-- maps.Keys. -/
theorem sKeys (G : Glob) (H : Hp) (l : Nat) (es : List (Int × AV)) (hl : H[l]? = some (.map es)) : XS Tryz.prog G 183 [.mapr l] H (fun r H' => r = .clo 214 [.ptr H.length 0 0] ∧ H' = H ++ [.one 219 [.mapr l]]) := by
  intro c Vs s hg hlen hr
  match Vs, hlen with
  | [V], _ =>
    have h0 := hr 0 _ V rfl rfl
    cases h0 with
    | mapr _ cl hρ =>
      refine (kKeys (some cl.blk) c.w).mono ?_
      rintro e w' ⟨rfl, rfl⟩
      have t := To.new s (.one 219 [.mapr l]) (.cells #[.map (some cl.blk)] 219) ⟨c.w.heap.size, 0, 1, 1⟩ rfl fun c' m hρ' hh hI hB =>
        ⟨_, #[.map (some cl.blk)], hρ', rfl, hh, rfl, hI, hB, fun i r hri => by
          cases i with
          | succ i => simp at hri
          | zero =>
            simp at hri
            subst hri
            refine ⟨rfl, fun j x hx => ?_⟩
            cases j with
            | succ j => simp at hx
            | zero =>
              simp at hx
              subst hx
              exact ⟨.map (some cl.blk), by simp, rfl, .mapr _ cl (m.ρ _ _ hρ)⟩, rfl, rfl⟩
      refine ⟨_, _, _, _, rfl, rfl, t, .clo 214 [.ptr H.length 0 0] #[.pointer (some ⟨c.w.heap.size, 0, none⟩)] rfl (fun j x V hx hV => ?_), rfl, rfl⟩
      cases j with
      | succ j => simp at hx
      | zero =>
        simp at hx hV
        subst hx
        subst hV
        have := Rel.ptr (c := { c with w := c.w.alloc (.cells #[.map (some cl.blk)] 219), ρ := updρ c.ρ H.length ⟨c.w.heap.size, 0, 1, 1⟩ }) H.length 0 0 _ (updρ_self _ _ _)
        simpa using this
/-- slices.Sorted over maps.Keys. -/
theorem sSorted (G : Glob) (H : Hp) (l n : Nat) (es : List (Int × AV)) (hl : H[l]? = some (.map es)) (hn : H[n]? = some (.one 219 [.mapr l])) (hnd : (es.map (·.1)).Nodup) (hk : ∀ e ∈ es, 0 ≤ e.1 ∧ e.1 ≤ 1000000) (hes : es.length ≤ 1000000) :
    XS Tryz.prog G 182 [.clo 214 [.ptr n 0 0]] H (fun r H' => r = plistK ((sortI (es.map (·.1))).map iRow) ∧ H' = H) := by
  intro c Vs s hg hlen hr
  match Vs, hlen with
  | [V], _ =>
    have h0 := hr 0 _ V rfl rfl
    cases h0 with
    | clo _ _ Us hlu h2 =>
      have hU : ∃ U, Us = #[U] := by
        match Us, hlu with
        | ⟨[U]⟩, _ => exact ⟨U, rfl⟩
      obtain ⟨U, rfl⟩ := hU
      have hp := h2 0 _ U rfl rfl
      cases hp with
      | ptr _ _ _ cl hρ =>
        obtain ⟨cl', cells, e1, e2, e3, e4, e5, e6, e7, e8, e9⟩ := s.obj n _ hn
        rw [hρ] at e1
        cases e1
        obtain ⟨V0, v1, v2, v3⟩ := (e7 0 _ rfl).2 0 (.mapr l) rfl
        cases v3 with
        | mapr _ cm hρm =>
          obtain ⟨cm', ms, g1, g2, g3, g4, g5, g6⟩ := s.obj l _ hl
          rw [hρm] at g1
          cases g1
          obtain ⟨hown, hkeys⟩ := own_map g2 (fun j e he => let ⟨V, a, b⟩ := g6 j e he; ⟨V, a⟩) g5 hnd hk hes
          have hoff : cl.base + 0 * cl.sz + 0 = 0 := by rw [e8]; simp
          rw [hoff]
          have hcell : c.w.cell? ⟨cl.blk, 0, none⟩ = some (.map (some cm.blk)) := by
            rw [cell_at e3, ← v1]
            congr 1
            omega
          have hsz : Maps.size (H := Unit) (.map ((ms.toList.map (WideElems.rg Tryz.prog 3 kR)).foldr DataW.insert [])) = es.length := by
            rw [Maps.size_eq, fold_len, List.length_map, Array.length_toList, g5]
          refine (kSorted cl.blk cm.blk _ _ kR c.w (Array.getElem?_eq_some_iff.1 e3).1 hcell hown (by rw [hsz]; exact Nat.le_trans hes (by decide)) (by rw [hsz]; omega)).mono ?_
          rintro e w' ⟨v, ss, rfl, hperm, hrow, hnil, hB⟩
          have hp2 : ss.Perm (es.map (·.1)) := by
            refine hperm.trans ?_
            rw [← hkeys]
            have := fold_perm (ms.toList.map (WideElems.rg Tryz.prog 3 kR))
            rw [List.map_map] at this
            exact this
          have hs : ss.mergeSort (fun x y => decide (x ≤ y)) = sortI (es.map (·.1)) := mergeSort_of_perm_i hp2
          rw [hs] at hrow
          have hlen2 : (sortI (es.map (·.1))).length = ss.length := by rw [← hs, List.length_mergeSort]
          rcases hrow.2 with ⟨rfl, hz⟩ | ⟨gb, cap, cur, rfl, hbase, hgb, r1, r2, r3, r4⟩
          · have he : sortI (es.map (·.1)) = [] := List.length_eq_zero_iff.1 (hlen2.trans hz)
            refine ⟨_, _, _, _, rfl, rfl, To.grown s (fun _ => False) (fun _ h => h.elim) hB.size (fun b hb => hB.block b hb) hB.os hB.tape hB.output, ?_, rfl, rfl⟩
            rw [he]
            exact .nils
          · have hglt := (Array.getElem?_eq_some_iff.1 hgb).1
            refine ⟨_, _, _, _, rfl, rfl, To.grown s (fun b => b = gb) (fun b h => by subst h; exact ⟨hbase, hglt⟩) hB.size (fun b hb => hB.block b hb) hB.os hB.tape hB.output, ?_, rfl, rfl⟩
            have hne : ¬ (sortI (es.map (·.1))).map iRow = [] := fun h => by
              have h1 : sortI (es.map (·.1)) = [] := by simpa using h
              have h2 : ss = [] := List.length_eq_zero_iff.1 (by rw [← hlen2, h1]; rfl)
              have := hnil.2 h2
              cases this
            have hcur : ∀ i, i < (sortI (es.map (·.1))).length → cur[i]? = some (.int .i64 ((sortI (es.map (·.1))).getD i 0)) := fun i hi => by
              have h1 := congrArg (·[i]?) r4
              simp only [Nat.mul_one] at h1
              rw [List.getElem?_take_of_lt (by omega), List.getElem?_map, List.getElem?_eq_getElem hi] at h1
              rw [← Array.getElem?_toList, h1]
              simp [encZ, hi]
            have hrel := Rel.list (c := { c with w := w', I := fun b => c.I b ∨ b = gb }) .loose ((sortI (es.map (·.1))).map iRow) gb 0 1 cap none (.inr rfl) (fun i _ => .int .i64 ((sortI (es.map (·.1))).getD i 0)) (.inr (.inr rfl)) (by simpa [hlen2] using r1) (fun h => by cases h) (fun r hr => by obtain ⟨k, _, rfl⟩ := List.mem_map.1 hr; rfl)
              (List.all_eq_true.2 fun r hr => by obtain ⟨k, _, rfl⟩ := List.mem_map.1 hr; rfl)
              (fun i j hi hj => by
                have hj0 : j = 0 := by omega
                subst hj0
                have hi2 : i < (sortI (es.map (·.1))).length := by simpa using hi
                refine ⟨?_, rfl⟩
                rw [cell_at hgb, ← hcur i hi2]
                congr 1
                omega)
              (fun i r j x hr hx => by
                rw [List.getElem?_map] at hr
                obtain ⟨k, hk2, rfl⟩ := Option.map_eq_some_iff.1 hr
                cases j with
                | succ j => simp [iRow] at hx
                | zero =>
                  simp [iRow] at hx
                  subst hx
                  have : (sortI (es.map (·.1))).getD i 0 = k := by simp [List.getD, hk2]
                  rw [this]
                  exact .int _ _)
            rw [plistK, if_neg hne]
            simpa [hlen2] using hrel

def insI (n : Int) : List Int → List Int
  | [] => [n]
  | m :: r => if n ≤ m then n :: m :: r else m :: insI n r
def incr : List Int → Bool
  | [] => true
  | a :: r => match r with
    | [] => decide (0 ≤ a) && decide (a ≤ 1000000)
    | b :: _ => decide (0 ≤ a) && decide (a < b) && incr r
theorem insI_perm (n : Int) : ∀ (l : List Int), (insI n l).Perm (n :: l)
  | [] => .refl _
  | m :: r => by
    unfold insI
    split
    · exact .refl _
    · exact ((insI_perm n r).cons _).trans (.swap _ _ _)
theorem foldI_perm : ∀ (l : List Int), (l.foldr insI []).Perm l
  | [] => .refl _
  | a :: r => (insI_perm a _).trans ((foldI_perm r).cons _)
theorem incr_ok : ∀ (l : List Int), incr l = true → l.Pairwise (· < ·) ∧ ∀ x ∈ l, 0 ≤ x ∧ x ≤ 1000000
  | [], _ => ⟨.nil, fun x h => by cases h⟩
  | [a], h => by
    simp only [incr, Bool.and_eq_true, decide_eq_true_eq] at h
    exact ⟨List.pairwise_singleton _ _, fun x hx => by cases List.mem_singleton.1 hx; exact h⟩
  | a :: b :: r, h => by
    simp only [incr, Bool.and_eq_true, decide_eq_true_eq] at h
    obtain ⟨h1, h2⟩ := incr_ok (b :: r) h.2
    have hb := h2 b (List.mem_cons_self ..)
    refine ⟨List.pairwise_cons.2 ⟨fun x hx => ?_, h1⟩, fun x hx => ?_⟩
    · rcases List.mem_cons.1 hx with rfl | hx
      · exact h.1.2
      · have := (List.pairwise_cons.1 h1).1 x hx; omega
    · rcases List.mem_cons.1 hx with rfl | hx
      · exact ⟨h.1.1, by omega⟩
      · exact h2 x hx
theorem foldI_sortI {l : List Int} (h : incr (l.foldr insI []) = true) : l.foldr insI [] = sortI l ∧ l.Nodup ∧ ∀ x ∈ l, 0 ≤ x ∧ x ≤ 1000000 := by
  obtain ⟨h1, h2⟩ := incr_ok _ h
  have hp := foldI_perm l
  refine ⟨?_, hp.nodup (h1.imp fun hab e => by omega), fun x hx => h2 x (hp.mem_iff.2 hx)⟩
  have e1 : (l.foldr insI []).mergeSort (fun x y => decide (x ≤ y)) = l.foldr insI [] := List.mergeSort_of_pairwise (h1.imp fun hab => by simpa using Int.le_of_lt hab)
  rw [← e1]
  exact mergeSort_of_perm_i hp
def keysK (xs : List AV) (H : Hp) : Option (AV × Hp) := match xs with
  | [.mapr l] => match H[l]? with
    | some (.map _) => some (.clo 214 [.ptr H.length 0 0], H ++ [.one 219 [.mapr l]])
    | _ => none
  | _ => none
def pl : List Int → AV
  | [] => .nils
  | a :: r => .list .loose (iRow a :: r.map iRow)
def sortedK (xs : List AV) (H : Hp) : Option (AV × Hp) := match xs with
  | [.clo 214 [.ptr n 0 0]] => match H[n]? with
    | some (.one 219 [.mapr l]) => match H[l]? with
      | some (.map es) => if (incr ((es.map (·.1)).foldr insI []) && decide (es.length ≤ 1000000)) = true then some (pl ((es.map (·.1)).foldr insI []), H) else none
      | _ => none
    | _ => none
  | _ => none
theorem keys_ok (G : Glob) (xs : List AV) (H : Hp) (r : AV) (H' : Hp) (h : keysK xs H = some (r, H')) : XS Tryz.prog G 183 xs H fun r1 H1 => r1 = r ∧ H1 = H' := by
  unfold keysK at h
  split at h
  case h_2 => cases h
  split at h
  case h_2 => cases h
  rename_i hl
  cases h
  exact sKeys G H _ _ hl
theorem sorted_ok (G : Glob) (xs : List AV) (H : Hp) (r : AV) (H' : Hp) (h : sortedK xs H = some (r, H')) : XS Tryz.prog G 182 xs H fun r1 H1 => r1 = r ∧ H1 = H' := by
  unfold sortedK at h
  split at h
  case h_2 => cases h
  split at h
  case h_2 => cases h
  rename_i hn
  split at h
  case h_2 => cases h
  rename_i es hl
  split at h
  case isFalse => cases h
  rename_i hc
  simp only [Bool.and_eq_true, decide_eq_true_eq] at hc
  cases h
  obtain ⟨e, hnd, hk⟩ := foldI_sortI hc.1
  refine (sSorted G H _ _ es hl hn hnd (fun e he => hk _ (List.mem_map_of_mem he)) hc.2).mono ?_
  rintro r1 H1 ⟨rfl, rfl⟩
  refine ⟨?_, rfl⟩
  rw [← e]
  cases (es.map (·.1)).foldr insI [] <;> rfl
end Go.Vi
