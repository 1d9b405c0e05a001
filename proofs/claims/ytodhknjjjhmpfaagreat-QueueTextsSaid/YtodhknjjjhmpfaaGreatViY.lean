/- Vi, part Y: steps for walks that a small program prints. -/
import Derived.Test.YtodhknjjjhmpfaaGreatViT
section
set_option autoImplicit false
set_option linter.unusedVariables false
set_option linter.unusedSimpArgs false
namespace Go.Vi

/-- Slots with some of them changed. -/
def updL : List AV → List (Option AV) → List AV
  | [], _ => []
  | x :: r, [] => x :: r
  | x :: r, none :: s => x :: updL r s
  | _ :: r, some y :: s => y :: updL r s

theorem st0 {x v : AV} {l : List AV} : (x :: l).set 0 v = v :: l := rfl
theorem st1 {x v : AV} {l : List AV} {n : Nat} : (x :: l).set (n + 1) v = x :: l.set n v := rfl
section
variable {P : Program} {G : Glob} {md : Oper → Md} {nb : Nat} {Q : Qv} {env : List AV} {H : Hp} {ops : Array Oper} {r : List Oper} {K : List AV → Hp → Prop}

/-- What a guard says. -/
theorem wanted_t {j : Nat} {want : Bool} (gs : Nat) (hd : (ops[j]?).bind (·.dst) = some gs) (hb : env[gs]? = some (.bool want)) : wantedV (some (j, want)) ops env = some true := by
  simp only [wantedV, hd, Option.bind_some, hb]; simp
theorem wanted_f {j : Nat} {want : Bool} (gs : Nat) (hd : (ops[j]?).bind (·.dst) = some gs) (hb : env[gs]? = some (.bool (!want))) : wantedV (some (j, want)) ops env = some false := by
  simp only [wantedV, hd, Option.bind_some, hb]; simp
theorem wanted_k {j : Nat} {want : Bool} (gs : Nat) (hd : (ops[j]?).bind (·.dst) = some gs) (hb : env[gs]? = some (.tup [])) : wantedV (some (j, want)) ops env = some false := by
  simp only [wantedV, hd, Option.bind_some, hb]

theorem vc_norm {c : Code} {env' : List AV} {H' : Hp} (he : env = env') (hH : H = H') (h : vc P G md nb c Q env' H') : vc P G md nb c Q env H := by subst he; subst hH; exact h

/-- A loop that changes some slots; the objects are given. -/
theorem vc_loopH {α : Type} {c : Code} (f : α → List (Option AV)) (Hf : α → Hp) (μ : α → Nat) (a0 : α) (h0 : Wk env (updL env (f a0))) (hH : H = Hf a0)
    (hcl : ∀ a, nb ≤ (Hf a).length ∧ envB (Hf a).length (updL env (f a)) ∧ heapB (Hf a).length (Hf a))
    (step : ∀ (a : α) (Y : List AV → Hp → Prop), (∀ a', μ a' < μ a → ∀ env' H' g, Wk env' (updL env (f a')) → H' = Hf a' ++ g → Y env' H') → vc P G md nb c (thenQ Y Q) (updL env (f a)) (Hf a)) : vc P G md nb (.loop c) Q env H :=
  vc_loop (fun a => updL env (f a)) Hf μ a0 h0 hH hcl step
/-- The objects stay. -/
theorem vc_loopU {α : Type} {c : Code} (f : α → List (Option AV)) (μ : α → Nat) (a0 : α) (h0 : Wk env (updL env (f a0)))
    (hcl : ∀ a, nb ≤ H.length ∧ envB H.length (updL env (f a)) ∧ heapB H.length H)
    (step : ∀ (a : α) (Y : List AV → Hp → Prop), (∀ a', μ a' < μ a → ∀ env' H' g, Wk env' (updL env (f a')) → H' = H ++ g → Y env' H') → vc P G md nb c (thenQ Y Q) (updL env (f a)) H) : vc P G md nb (.loop c) Q env H :=
  vc_loop (fun a => updL env (f a)) (fun _ => H) μ a0 h0 rfl hcl step
theorem leafB_lent {n : Nat} {x : AV} (h : lend0 [] x = some x) : leafB n x := by
  cases x with
  | ptr l i k => simp [lend0] at h
  | row t l i m => simp [lend0, rowsOf] at h
  | sub l i k es m => simp [lend0, rowsOf] at h
  | mapr l => cases h
  | agg cs => cases h
  | tup cs => cases h
  | iface t v => cases h
  | clo f cs =>
    cases cs with
    | nil => rfl
    | cons a r => cases h
  | _ => trivial
theorem cellsB_lent {n : Nat} : ∀ {cs : List AV}, mapL (lend0 []) cs = some cs → cellsB n cs
  | [], _ => trivial
  | x :: r, h => by
    unfold mapL at h
    split at h
    · rename_i y ys h1 h2
      cases h
      exact ⟨leafB_lent h1, cellsB_lent h2⟩
    · cases h
theorem IsL.below {n : Nat} {x : AV} (h : IsL x) : leafB n x := by
  rcases h with rfl | ⟨t, rows, rfl⟩ <;> trivial
theorem IsL.belowV {n : Nat} {x : AV} (h : IsL x) : valB n x := by
  rcases h with rfl | ⟨t, rows, rfl⟩ <;> trivial

theorem isVal_int {k : IntKind} {n : Int} : (AV.int k n).isVal = true := rfl
theorem isVal_bool {b : Bool} : (AV.bool b).isVal = true := rfl
theorem isVal_str {b : ByteArray} : (AV.str b).isVal = true := rfl
theorem isVal_nils : AV.nils.isVal = true := rfl
theorem isVal_loose {rows : List (List AV)} : (AV.list .loose rows).isVal = true := rfl
theorem mapL_nil {α β : Type} {f : α → Option β} : mapL f [] = some [] := rfl
theorem mapL_cons {α β : Type} {f : α → Option β} {x : α} {y : β} {r : List α} {ys : List β} (h1 : f x = some y) (h2 : mapL f r = some ys) : mapL f (x :: r) = some (y :: ys) := by simp only [mapL, h1, h2]
theorem mapL_app {α β : Type} {f : α → Option β} {x : α} {y : β} {r : List α} {ys : List β} (h1 : f x = some y) (h2 : mapL f r = some ys) : mapL f ([x] ++ r) = some (y :: ys) := by simp only [List.cons_append, List.nil_append, mapL, h1, h2]
theorem lend_agg {cs ys : List AV} (h : mapL (lend0 H) cs = some ys) : lend H (.agg cs) = some (.agg ys) := by simp only [lend, h, Option.map_some]
theorem lend_cloG {g : Nat} {cs ys : List AV} (h : mapL (lend0 H) cs = some ys) : lend H (.clo g cs) = some (.clo g ys) := by simp only [lend, h, Option.map_some]
theorem lend0_ptr {l i k : Nat} {T : TypeId} {sz : Nat} {rows : List (List AV)} {r : List AV} (hl : H[l]? = some (.arr T sz rows)) (hr : rows[i]? = some r) (hv : (r.drop k).all AV.isVal = true) : lend0 H (.ptr l i k) = some (.iptr true (r.drop k)) := by
  simp only [lend0, hl, hr]
  rw [if_pos hv]
theorem lend_ptr {l i k : Nat} {T : TypeId} {sz : Nat} {rows : List (List AV)} {r : List AV} (hl : H[l]? = some (.arr T sz rows)) (hr : rows[i]? = some r) (hv : (r.drop k).all AV.isVal = true) : lend H (.ptr l i k) = some (.iptr true (r.drop k)) := lend0_ptr hl hr hv
def envN (n : Nat) (H : Hp) : List AV → Prop
  | [] => True
  | x :: r => valN n H x ∧ envN n H r
def heapN (n : Nat) (H : Hp) : Hp → Prop
  | [] => True
  | x :: r => objN n H x ∧ heapN n H r
theorem envN_mem {n : Nat} {H : Hp} : ∀ {e : List AV}, envN n H e → ∀ y ∈ e, valN n H y
  | [], _, y, h => by cases h
  | x :: r, h, y, hy => by
    rcases List.mem_cons.1 hy with rfl | hy
    · exact h.1
    · exact envN_mem h.2 y hy
theorem heapN_mem {n : Nat} {H : Hp} : ∀ {e : Hp}, heapN n H e → ∀ y ∈ e, objN n H y
  | [], _, y, h => by cases h
  | x :: r, h, y, hy => by
    rcases List.mem_cons.1 hy with rfl | hy
    · exact h.1
    · exact heapN_mem h.2 y hy
/-- Objects may bear other names behind each round. -/
theorem vc_loopN {α : Type} {c : Code} (f : α → List (Option AV)) (Hf : α → Hp) (μ : α → Nat) (a0 : α) (σ0 : List Nat) (h0 : RenE σ0 (updL env (f a0)) env) (hnd : σ0.Nodup) (hlow : ∀ l, l < nb → σ0[l]? = some l) (hobj : RenH σ0 H σ0 (Hf a0))
    (hcl : ∀ a, nb ≤ (Hf a).length ∧ envN nb (Hf a) (updL env (f a)) ∧ heapN nb (Hf a) (Hf a))
    (step : ∀ (a : α) (Y : List AV → Hp → Prop), (∀ a', μ a' < μ a → ∀ env' H' σ, RenE σ (updL env (f a')) env' → σ.Nodup → (∀ l, l < nb → σ[l]? = some l) → RenH σ H' σ (Hf a') → Y env' H') → vc P G md nb c (thenQ Y Q) (updL env (f a)) (Hf a)) : vc P G md nb (.loop c) Q env H :=
  vc_loopR (fun a => updL env (f a)) Hf μ a0 σ0 h0 hnd hlow hobj (fun a => ⟨(hcl a).1, envN_mem (hcl a).2.1, heapN_mem (hcl a).2.2⟩) step
theorem IsL.ren0 {σ : List Nat} {x : AV} (h : IsL x) : Vi.ren0 σ x = some x := by
  rcases h with rfl | ⟨t, rows, rfl⟩ <;> rfl
theorem IsL.ren1 {σ : List Nat} {x : AV} (h : IsL x) : Vi.ren1 σ x = some x := by
  rcases h with rfl | ⟨t, rows, rfl⟩ <;> rfl
theorem IsL.leafN {n : Nat} {H : Hp} {x : AV} (h : IsL x) : Vi.leafN n H x := by
  rcases h with rfl | ⟨t, rows, rfl⟩ <;> trivial
theorem IsL.valN {n : Nat} {H : Hp} {x : AV} (h : IsL x) : Vi.valN n H x := by
  rcases h with rfl | ⟨t, rows, rfl⟩ <;> trivial
theorem ren_arr {σ : List Nat} {T : TypeId} {sz : Nat} {rows rows' : List (List AV)} (h : mapL (mapL (Vi.ren0 σ)) rows = some rows') : renO σ (.arr T sz rows) = some (.arr T sz rows') := by
  simp only [renO, h, Option.map_some]
theorem leaf_val {σ : List Nat} {x : AV} (h : x.isVal = true) : Vi.ren0 σ x = some x := by
  cases x with
  | clo f cs =>
    cases cs with
    | nil => rfl
    | cons a r => cases h
  | undef => cases h
  | ptr l i k => cases h
  | row t l i n => cases h
  | sub l i k es n => cases h
  | agg cs => cases h
  | tup cs => cases h
  | mapr l => cases h
  | iface t v => cases h
  | _ => rfl
theorem leafN_val {n : Nat} {H : Hp} {x : AV} (h : x.isVal = true) : Vi.leafN n H x := by
  cases x <;> first | trivial | cases h
theorem mapL_id {α : Type} {f : α → Option α} : ∀ {xs : List α}, (∀ x ∈ xs, f x = some x) → mapL f xs = some xs
  | [], _ => rfl
  | x :: r, h => mapL_cons (h x (by simp)) (mapL_id fun y hy => h y (by simp [hy]))
/-- Rows of values bear no names. -/
theorem ren_rows {σ : List Nat} {rows : List (List AV)} (h : allVal rows = true) : mapL (mapL (Vi.ren0 σ)) rows = some rows :=
  mapL_id fun r hr => mapL_id fun x hx => leaf_val (List.all_eq_true.1 (List.all_eq_true.1 h r hr) x hx)
theorem rowsN_val {n : Nat} {H : Hp} {rows : List (List AV)} (h : allVal rows = true) : ∀ r ∈ rows, cellsN n H r :=
  fun r hr x hx => leafN_val (List.all_eq_true.1 (List.all_eq_true.1 h r hr) x hx)

/-- A list that grows: nil, or an object. -/
def pval (L : Nat) (pgs : List (List AV)) : AV := if pgs = [] then .nils else .row false L 0 pgs.length
def pobj (e : TypeId) (sz : Nat) (pgs : List (List AV)) : VO := if pgs = [] then .dead else .arr e sz pgs
theorem frzRows_val {H : Hp} : ∀ {rows : List (List AV)}, (∀ r ∈ rows, ∀ x ∈ r, frzCell H x = some (H, x)) → frzRows H rows = some (H, rows)
  | [], _ => rfl
  | r :: s, h => by
    have hc : ∀ {cs : List AV}, (∀ x ∈ cs, frzCell H x = some (H, x)) → frzCells H cs = some (H, cs) := by
      intro cs
      induction cs with
      | nil => intro _; rfl
      | cons x r ih => intro h; simp only [frzCells, h x (by simp), ih (fun y hy => h y (by simp [hy]))]
    simp only [frzRows, hc (h r (by simp)), frzRows_val (rows := s) (fun r hr => h r (by simp [hr]))]
theorem frz_val {H : Hp} {x : AV} (h : x.isVal = true) : frzCell H x = some (H, x) := by
  cases x <;> first | rfl | cases h
theorem acc_append {H : Hp} {L : Nat} {pgs news : List (List AV)} {t t2 e : TypeId} {sz by_ : Nat} {d2 : TypeDesc} {zc : List AV} {x : AV} (hL : H[L]? = some (pobj e sz pgs)) (he : elemAt P t = some (none, e, sz)) (hu : P.underlying t2 = some d2) (hd : isInt d2 = false) (hz : zcOf P e = some zc) (hb : byOf P e = some by_)
    (hx : srcRows H x = some news) (hl : zc.length = sz) (h0 : sz ≠ 0) (hb0 : by_ ≠ 0) (hlo : lenOk sz news = true) (hs : x.isStr = false) (hne : news ≠ []) (hv : allVal news = true) (hsz : (pgs.length + news.length) * by_ ≤ 140737488355328) :
    vappend P H t t2 (pval L pgs) x = some (.row false H.length 0 (pgs.length + news.length), H.set L .dead ++ [.arr e sz (pgs ++ news)]) := by
  have hf : frzRows H news = some (H, news) := frzRows_val fun r hr x hx => frz_val (List.all_eq_true.1 (List.all_eq_true.1 hv r hr) x hx)
  have hn0 : ¬ news.length = 0 := by simpa using hne
  unfold vappend vappendF
  simp only [he, hu, hd, hz, hb, hx, Bool.false_eq_true, if_false]
  rw [if_pos ⟨hl, h0, hb0, hlo, by simp [hs], by unfold pval; split <;> rfl⟩, if_neg hn0, hf]
  simp only
  by_cases hp : pgs = []
  · subst hp
    simp only [pobj, if_true] at hL
    have hset : H.set L .dead = H := by
      obtain ⟨h1, h2⟩ := List.getElem?_eq_some_iff.1 hL
      rw [← h2]; simp
    simp only [pval, if_true, hset]
    rw [if_pos (by simpa using hsz)]
    simp
  · simp only [pobj, if_neg hp] at hL
    simp only [pval, if_neg hp, hL]
    rw [if_pos (by refine ⟨?_, ?_, ?_⟩ <;> first | trivial | exact hsz | omega | simp)]
    simp
theorem pval_snoc {σ : List Nat} {L l' : Nat} {pgs : List (List AV)} {r : List AV} (h : σ[L]? = some l') : Vi.ren1 σ (pval L (pgs ++ [r])) = some (.row false l' 0 (pgs.length + 1)) := by
  simp [pval, Vi.ren1, Vi.ren0, h]
theorem pobj_snoc {σ : List Nat} {e : TypeId} {sz : Nat} {pgs : List (List AV)} {r : List AV} (h : allVal (pgs ++ [r]) = true) : renO σ (pobj e sz (pgs ++ [r])) = some (.arr e sz (pgs ++ [r])) := by
  have : pobj e sz (pgs ++ [r]) = .arr e sz (pgs ++ [r]) := by simp [pobj]
  rw [this]
  exact ren_arr (ren_rows h)
theorem pval_ren {σ : List Nat} {L : Nat} {pgs : List (List AV)} (h : σ[L]? = some L) : Vi.ren1 σ (pval L pgs) = some (pval L pgs) := by
  unfold pval
  split <;> simp [Vi.ren1, Vi.ren0, h]
theorem pobj_ren {σ : List Nat} {H2 : Hp} {l : Nat} {e : TypeId} {sz : Nat} {pgs : List (List AV)} (hv : allVal pgs = true) (h : H2[l]? = some (pobj e sz pgs)) : pobj e sz pgs = .dead ∨ ∃ o', H2[l]? = some o' ∧ renO σ (pobj e sz pgs) = some o' := by
  refine .inr ⟨_, h, ?_⟩
  unfold pobj
  split
  · rfl
  · exact ren_arr (ren_rows hv)
theorem pval_N {n : Nat} {H : Hp} {L : Nat} {e : TypeId} {sz : Nat} {pgs : List (List AV)} (h : H[L]? = some (pobj e sz pgs)) : Vi.valN n H (pval L pgs) := by
  unfold pval
  split
  · trivial
  · rename_i hp
    exact .inr ⟨_, h, by simp [pobj, hp, VO.live]⟩
theorem pobj_N {n : Nat} {H : Hp} {e : TypeId} {sz : Nat} {pgs : List (List AV)} (hv : allVal pgs = true) : objN n H (pobj e sz pgs) := by
  unfold pobj
  split
  · trivial
  · exact rowsN_val hv
/-- What comes back of it. -/
def plist (pgs : List (List AV)) : AV := if pgs = [] then .nils else .list .loose pgs
theorem retD_val : ∀ {d : Nat} {H : Hp} {x : AV}, x.isVal = true → retD d H x = some x
  | 0, H, x, h => by simp [retD, h]
  | d + 1, H, x, h => by cases x <;> first | (simp [retD, h]; done) | cases h
theorem ret_pval {H : Hp} {L : Nat} {e : TypeId} {sz : Nat} {pgs : List (List AV)} (hv : allVal pgs = true) (h : H[L]? = some (pobj e sz pgs)) : ret1 H (pval L pgs) = some (plist pgs) := by
  unfold pval plist
  split
  · rfl
  · rename_i hp
    simp only [pobj, if_neg hp] at h
    have hr : rowsOf H (.row false L 0 pgs.length) = some pgs := by simp [rowsOf, h]
    show (match rowsOf H (.row false L 0 pgs.length) with
      | some rows => (mapL (mapL (retD 2 H)) rows).map (AV.list .loose)
      | none => none) = _
    rw [hr]
    show (mapL (mapL (retD 2 H)) pgs).map (AV.list .loose) = _
    rw [mapL_id (fun r hr => mapL_id fun x hx => retD_val (List.all_eq_true.1 (List.all_eq_true.1 hv r hr) x hx))]
    rfl
theorem ret_tup2 {H : Hp} {x y x' y' : AV} (h1 : ret1 H x = some x') (h2 : ret1 H y = some y') : retv H (.tup [x, y]) = some (.tup [x', y']) := by
  simp only [retv, mapL, h1, h2, Option.map_some]
theorem IsL_plist {pgs : List (List AV)} : IsL (plist pgs) := by
  unfold plist; split
  · exact .inl rfl
  · exact .inr ⟨_, _, rfl⟩
theorem lrows_plist {pgs : List (List AV)} : lrows (plist pgs) = pgs := by
  unfold plist; split
  · rename_i h; simp [lrows, h]
  · rfl
theorem i64_small {n : Int} (h1 : -9223372036854775808 ≤ n) (h2 : n < 9223372036854775808) : IntKind.i64.wrap n = n := IntWalk.i64_in n ⟨by omega, by omega⟩
theorem wrap_pred {n : Nat} (h1 : 0 < n) (h2 : n < 9223372036854775808) : IntKind.i64.wrap ((n : Int) - 1) = ((n - 1 : Nat) : Int) := by
  rw [i64_small (by omega) (by omega)]; omega
theorem int_eq {H : Hp} {a b : Int} (h : a = b) : some (AV.int .i64 a, H) = some (AV.int .i64 b, H) := by rw [h]

/-- A slot that bears a truth: two cases. -/
theorem w_split (i : Nat) {b : Bool} (hb : env[i]? = some (.bool b)) (ht : b = true → vops P G md ops r (env.set i (.bool true)) H K) (hf : b = false → vops P G md ops r (env.set i (.bool false)) H K) : vops P G md ops r env H K := by
  obtain ⟨hlt, he⟩ := List.getElem?_eq_some_iff.1 hb
  have e : env = env.set i (.bool b) := by
    rw [← he]; simp
  rw [e]
  cases b
  · exact hf rfl
  · exact ht rfl
theorem d_split (i : Nat) {b : Bool} (hb : env[i]? = some (.bool b)) (ht : b = true → vopsD P G md ops r (env.set i (.bool true)) H K) (hf : b = false → vopsD P G md ops r (env.set i (.bool false)) H K) : vopsD P G md ops r env H K := by
  obtain ⟨hlt, he⟩ := List.getElem?_eq_some_iff.1 hb
  have e : env = env.set i (.bool b) := by
    rw [← he]; simp
  rw [e]
  cases b
  · exact hf rfl
  · exact ht rfl

/-- No result's slot. -/
theorem w_op0N {op : Op} {ty : TypeId} {pos : String} {aft : Array Edge} {g : Option (Nat × Bool)} {v : AV} {H' H2 : Hp} (hg : wantedV g ops env = some true) (hx : vexec2 P md (ev G env) H ⟨none, op, ty, pos, aft, g⟩ = some (v, H')) (hH : H' = H2)
    (ho : ∀ k, (match vexec2 P md (ev G env) H ⟨none, op, ty, pos, aft, g⟩ with | some (r, H') => k r H' | none => False) → vop (XS P G) P md G env H ⟨none, op, ty, pos, aft, g⟩ k)
    (h : vops P G md ops r env H2 K) : vops P G md ops (⟨none, op, ty, pos, aft, g⟩ :: r) env H K := by subst hH; exact vo_op hg ho hx h
theorem w_skip0N {op : Op} {ty : TypeId} {pos : String} {aft : Array Edge} {g : Option (Nat × Bool)} (hg : wantedV g ops env = some false)
    (h : vops P G md ops r env H K) : vops P G md ops (⟨none, op, ty, pos, aft, g⟩ :: r) env H K := vo_skip hg h

/-- Slots and objects written out. -/
theorem w_opH {d : Tmp} {op : Op} {ty : TypeId} {pos : String} {aft : Array Edge} {g : Option (Nat × Bool)} {v : AV} {H' H2 : Hp} {env' : List AV} (hg : wantedV g ops env = some true) (hx : vexec2 P md (ev G env) H ⟨some d, op, ty, pos, aft, g⟩ = some (v, H')) (he : env.set d v = env') (hH : H' = H2)
    (ho : ∀ k, (match vexec2 P md (ev G env) H ⟨some d, op, ty, pos, aft, g⟩ with | some (r, H') => k r H' | none => False) → vop (XS P G) P md G env H ⟨some d, op, ty, pos, aft, g⟩ k)
    (h : vops P G md ops r env' H2 K) : vops P G md ops (⟨some d, op, ty, pos, aft, g⟩ :: r) env H K := by subst he; subst hH; exact vo_op hg ho hx h

/-- A call on lent values whose meaning is known. -/
theorem w_callI {d : Tmp} {ty : TypeId} {pos : String} {aft : Array Edge} {f : Operand} {args : Array Operand} {ts : Array TypeId} {gd : Option (Nat × Bool)} {g : Nat} {cs xs ys : List AV} {r' : AV} {env' : List AV} (hg : wantedV gd ops env = some true) (hf : ev G env f = some (.clo g cs)) (hx : evL (ev G env) args.toList = some xs) (he : enterOk P g = true)
    (hm : md ⟨some d, .call ⟨.value f, args, ts⟩, ty, pos, aft, gd⟩ = .iso) (hl : mapL (lend H) (xs ++ cs) = some ys) (hF : Fn P G g ys r') (hE : env.set d r' = env')
    (h : vops P G md ops r env' H K) : vops P G md ops (⟨some d, .call ⟨.value f, args, ts⟩, ty, pos, aft, gd⟩ :: r) env H K := by
  subst hE
  refine vo_call hg rfl hf hx he ?_
  rw [hm]
  exact call_iso hl hF h

/-! ### In a region whose order is drawn -/
theorem d_nil (h : K env H) : vopsD P G md ops [] env H K := h
theorem d_opH {d : Tmp} {op : Op} {ty : TypeId} {pos : String} {aft : Array Edge} {g : Option (Nat × Bool)} {v : AV} {H' H2 : Hp} {env' : List AV} (hg : wantedV g ops env = some true) (hx : vexec2 P md (ev G env) H ⟨some d, op, ty, pos, aft, g⟩ = some (v, H')) (hc : clsOp md ⟨some d, op, ty, pos, aft, g⟩ = 2 ∨ H' = H) (he : env.set d v = env') (hH : H' = H2)
    (ho : ∀ k, (match vexec2 P md (ev G env) H ⟨some d, op, ty, pos, aft, g⟩ with | some (r, H') => k r H' | none => False) → vop (XS P G) P md G env H ⟨some d, op, ty, pos, aft, g⟩ k)
    (h : vopsD P G md ops r env' H2 K) : vopsD P G md ops (⟨some d, op, ty, pos, aft, g⟩ :: r) env H K := by
  subst he
  subst hH
  simp only [vopsD, hg]
  by_cases h2 : clsOp md ⟨some d, op, ty, pos, aft, g⟩ = 2
  · rw [if_pos h2]
    refine ⟨v, H', ho _ ?_, h⟩
    rw [hx]
    exact ⟨rfl, rfl⟩
  · rw [if_neg h2]
    have e : H' = H := hc.resolve_left h2
    subst e
    refine ⟨v, ho _ ?_, h⟩
    rw [hx]
    exact ⟨rfl, rfl⟩
theorem d_op0 {op : Op} {ty : TypeId} {pos : String} {aft : Array Edge} {g : Option (Nat × Bool)} {v : AV} {H' H2 : Hp} (hg : wantedV g ops env = some true) (hx : vexec2 P md (ev G env) H ⟨none, op, ty, pos, aft, g⟩ = some (v, H')) (hc : clsOp md ⟨none, op, ty, pos, aft, g⟩ = 2 ∨ H' = H) (hH : H' = H2)
    (ho : ∀ k, (match vexec2 P md (ev G env) H ⟨none, op, ty, pos, aft, g⟩ with | some (r, H') => k r H' | none => False) → vop (XS P G) P md G env H ⟨none, op, ty, pos, aft, g⟩ k)
    (h : vopsD P G md ops r env H2 K) : vopsD P G md ops (⟨none, op, ty, pos, aft, g⟩ :: r) env H K := by
  subst hH
  simp only [vopsD, hg]
  by_cases h2 : clsOp md ⟨none, op, ty, pos, aft, g⟩ = 2
  · rw [if_pos h2]
    refine ⟨v, H', ho _ ?_, h⟩
    rw [hx]
    exact ⟨rfl, rfl⟩
  · rw [if_neg h2]
    have e : H' = H := hc.resolve_left h2
    subst e
    refine ⟨v, ho _ ?_, h⟩
    rw [hx]
    exact ⟨rfl, rfl⟩
theorem d_skipN {d : Tmp} {op : Op} {ty : TypeId} {pos : String} {aft : Array Edge} {g : Option (Nat × Bool)} {env' : List AV} (hg : wantedV g ops env = some false) (he : env.set d (.tup []) = env')
    (h : vopsD P G md ops r env' H K) : vopsD P G md ops (⟨some d, op, ty, pos, aft, g⟩ :: r) env H K := by
  subst he
  simp only [vopsD, hg]
  exact h
theorem d_skip0 {op : Op} {ty : TypeId} {pos : String} {aft : Array Edge} {g : Option (Nat × Bool)} (hg : wantedV g ops env = some false)
    (h : vopsD P G md ops r env H K) : vopsD P G md ops (⟨none, op, ty, pos, aft, g⟩ :: r) env H K := by
  simp only [vopsD, hg]
  exact h
theorem d_callI {d : Tmp} {ty : TypeId} {pos : String} {aft : Array Edge} {f : Operand} {args : Array Operand} {ts : Array TypeId} {gd : Option (Nat × Bool)} {g : Nat} {cs xs ys : List AV} {r' : AV} {env' : List AV} (hg : wantedV gd ops env = some true) (hf : ev G env f = some (.clo g cs)) (hx : evL (ev G env) args.toList = some xs) (he : enterOk P g = true)
    (hm : md ⟨some d, .call ⟨.value f, args, ts⟩, ty, pos, aft, gd⟩ = .iso) (hl : mapL (lend H) (xs ++ cs) = some ys) (hF : Fn P G g ys r') (hE : env.set d r' = env')
    (h : vopsD P G md ops r env' H K) : vopsD P G md ops (⟨some d, .call ⟨.value f, args, ts⟩, ty, pos, aft, gd⟩ :: r) env H K := by
  subst hE
  have hop : vop (XS P G) P md G env H ⟨some d, .call ⟨.value f, args, ts⟩, ty, pos, aft, gd⟩ fun v1 H1 => v1 = r' ∧ H1 = H := by
    simp only [vop, hf, hx, he, if_true]
    rw [hm]
    exact call_iso hl hF ⟨rfl, rfl⟩
  simp only [vopsD, hg]
  have hc : clsOp md ⟨some d, .call ⟨.value f, args, ts⟩, ty, pos, aft, gd⟩ ≠ 2 := by
    simp [clsOp, hm]
  rw [if_neg hc]
  exact ⟨r', hop, h⟩
theorem d_norm {l : List Oper} {env' : List AV} {H' : Hp} (he : env = env') (hH : H = H') (h : vopsD P G md ops l env' H' K) : vopsD P G md ops l env H K := by subst he; subst hH; exact h

theorem lend_of0 {x : AV} (h : lend0 H x = some x) : lend H x = some x := by
  cases x with
  | agg cs => cases h
  | clo f cs =>
    cases cs with
    | nil => rfl
    | cons a r => cases h
  | _ => exact h
theorem lends_of0 : ∀ {xs : List AV}, mapL (lend0 H) xs = some xs → mapL (lend H) xs = some xs
  | [], _ => rfl
  | x :: r, h => by
    unfold mapL at h
    split at h
    · rename_i y ys h1 h2
      cases h
      simp only [mapL, lend_of0 h1, lends_of0 h2]
    · cases h
theorem lend_clo {g : Nat} {caps : List AV} (h : mapL (lend0 H) caps = some caps) : lend H (.clo g caps) = some (.clo g caps) := by
  simp only [lend, h, Option.map_some]

/-! ### Slices that nobody writes, not known whether nil -/
theorem IsL.len {e t : TypeId} {x : AV} (hL : IsL x) (hu : P.underlying t = some (.slice e)) : vlen P H t x = some (.int .i64 (lrows x).length) := by
  unfold vlen
  rw [hu]
  rcases hL with rfl | ⟨t, rows, rfl⟩ <;> rfl
theorem IsL.at {t e : TypeId} {sz : Nat} {x : AV} {k : IntKind} {n : Int} {r0 : List AV} (hL : IsL x) (he : elemAt P t = some (none, e, sz)) (h0 : 0 ≤ n) (hr : (lrows x)[n.toNat]? = some r0) (hs : r0.length = sz) : ∃ b, vindexAddr P H t x (.int k n) = some (.iptr b r0) := by
  rcases hL with rfl | ⟨tg, rows, rfl⟩
  · simp [lrows] at hr
  · have hl := (List.getElem?_eq_some_iff.1 hr).1
    refine ⟨tg == .bor, ?_⟩
    unfold vindexAddr
    rw [he]
    simp only
    simp only [lrows] at hr hl
    rw [if_pos ⟨h0, by omega⟩, hr]
    simp only
    rw [if_pos hs]
theorem IsL.lend {x : AV} (hL : IsL x) : lend H x = some x := by
  rcases hL with rfl | ⟨tg, rows, rfl⟩
  · rfl
  · rfl
theorem IsL.lend0 {x : AV} (hL : IsL x) : lend0 H x = some x := by
  rcases hL with rfl | ⟨tg, rows, rfl⟩
  · rfl
  · rfl
theorem IsL.src {x : AV} (hL : IsL x) : srcRows H x = some (lrows x) := by
  rcases hL with rfl | ⟨tg, rows, rfl⟩
  · rfl
  · rfl

theorem x_len {d : Tmp} {ty : TypeId} {pos : String} {aft : Array Edge} {a : Operand} {t e : TypeId} {x : AV} {g : Option (Nat × Bool)} {env' : List AV} (hg : wantedV g ops env = some true) (hx : ev G env a = some x) (hL : IsL x) (hu : P.underlying t = some (.slice e)) (he : env.set d (.int .i64 (lrows x).length) = env')
    (h : vops P G md ops r env' H K) : vops P G md ops (⟨some d, .call ⟨.builtin .len, #[a], #[t]⟩, ty, pos, aft, g⟩ :: r) env H K := by
  refine w_opN (v := .int .i64 (lrows x).length) (H' := H) hg ?_ he (fun _ h => h) h
  have he : evL (ev G env) #[a].toList = some [x] := by simp [evL, hx]
  simp only [vexec2, vexec, he, vbuiltin]
  simp [IsL.len hL hu]
theorem x_index {d : Tmp} {ty : TypeId} {pos : String} {aft : Array Edge} {t : TypeId} {x ix : Operand} {s : AV} {k : IntKind} {n : Int} {e : TypeId} {sz : Nat} {r0 : List AV} {g : Option (Nat × Bool)} (hg : wantedV g ops env = some true) (hx : ev G env x = some s) (hL : IsL s) (hi : ev G env ix = some (.int k n))
    (he : elemAt P t = some (none, e, sz)) (h0 : 0 ≤ n) (hr : (lrows s)[n.toNat]? = some r0) (hs : r0.length = sz) (h : ∀ b, vops P G md ops r (env.set d (.iptr b r0)) H K) : vops P G md ops (⟨some d, .indexAddr t x ix, ty, pos, aft, g⟩ :: r) env H K := by
  obtain ⟨b, hb⟩ := IsL.at (H := H) (k := k) hL he h0 hr hs
  refine w_opN (v := .iptr b r0) (H' := H) hg ?_ rfl (fun _ h => h) (h b)
  simp only [vexec2, vexec, hx, hi, hb, Option.map_some]
theorem y_len {d : Tmp} {ty : TypeId} {pos : String} {aft : Array Edge} {a : Operand} {t e : TypeId} {x : AV} {g : Option (Nat × Bool)} {env' : List AV} (hg : wantedV g ops env = some true) (hx : ev G env a = some x) (hL : IsL x) (hu : P.underlying t = some (.slice e)) (he : env.set d (.int .i64 (lrows x).length) = env')
    (h : vopsD P G md ops r env' H K) : vopsD P G md ops (⟨some d, .call ⟨.builtin .len, #[a], #[t]⟩, ty, pos, aft, g⟩ :: r) env H K := by
  refine d_opH (v := .int .i64 (lrows x).length) (H' := H) hg ?_ (.inr rfl) he rfl (fun _ h => h) h
  have he : evL (ev G env) #[a].toList = some [x] := by simp [evL, hx]
  simp only [vexec2, vexec, he, vbuiltin]
  simp [IsL.len hL hu]
theorem y_index {d : Tmp} {ty : TypeId} {pos : String} {aft : Array Edge} {t : TypeId} {x ix : Operand} {s : AV} {k : IntKind} {n : Int} {e : TypeId} {sz : Nat} {r0 : List AV} {g : Option (Nat × Bool)} (hg : wantedV g ops env = some true) (hx : ev G env x = some s) (hL : IsL s) (hi : ev G env ix = some (.int k n))
    (he : elemAt P t = some (none, e, sz)) (h0 : 0 ≤ n) (hr : (lrows s)[n.toNat]? = some r0) (hs : r0.length = sz) (h : ∀ b, vopsD P G md ops r (env.set d (.iptr b r0)) H K) : vopsD P G md ops (⟨some d, .indexAddr t x ix, ty, pos, aft, g⟩ :: r) env H K := by
  obtain ⟨b, hb⟩ := IsL.at (H := H) (k := k) hL he h0 hr hs
  refine d_opH (v := .iptr b r0) (H' := H) hg ?_ (.inr rfl) rfl rfl (fun _ h => h) (h b)
  simp only [vexec2, vexec, hx, hi, hb, Option.map_some]
theorem d_end {K' : List AV → Hp → Prop} {env' : List AV} (he : env = env') (h : K' env' H) : vopsD P G md ops [] env H (thenQ K' Q .normal) := by subst he; exact h
theorem d_endB {id : Nat} {env' : List AV} (he : env = env') (h : Q .normal env' H) : vopsD P G md ops [] env H (blockQ id Q .normal) := by subst he; exact h
end
end Go.Vi
end
section
set_option autoImplicit false
set_option linter.unusedVariables false
set_option linter.unusedSimpArgs false
namespace Go.Vi

section
variable {P : Program} {G : Glob} {H : Hp}

theorem g_load {t T : TypeId} {l i k sz : Nat} {rows : List (List AV)} {r : List AV} {x : AV} (h1 : H[l]? = some (.arr T sz rows)) (h2 : rows[i]? = some r) (h3 : ldCells P t (r.drop k) = some x) : (vload P H t (.ptr l i k)).map (·, H) = some (x, H) := by
  simp only [vload, h1, h2, h3, Option.map_some]
theorem g_store {t T : TypeId} {l i k sz n : Nat} {rows : List (List AV)} {r cs : List AV} {x : AV} (h1 : H[l]? = some (.arr T sz rows)) (h2 : rows[i]? = some r) (h3 : x.cells = some cs) (h4 : szOf P t = some n) (h5 : cs.length = n ∧ k + n ≤ r.length ∧ n ≠ 0) :
    (vstore P H t (.ptr l i k) x).map (AV.tup [], ·) = some (AV.tup [], H.set l (.arr T sz (rows.set i (setC r k cs)))) := by
  simp only [vstore, h1, h2, h3, h4]
  rw [if_pos h5]
  rfl
theorem g_index {t T e : TypeId} {b : Bool} {l i m sz : Nat} {rows : List (List AV)} {k : IntKind} {n : Int} (he : elemAt P t = some (none, e, sz)) (h1 : H[l]? = some (.arr T sz rows)) (h0 : 0 ≤ n) (hn : n < m) :
    (vindexAddr P H t (.row b l i m) (.int k n)).map (·, H) = some (.ptr l (i + n.toNat) 0, H) := by
  simp only [vindexAddr, he]
  rw [if_pos ⟨h0, hn⟩, h1]
  simp
theorem g_copy {t T e : TypeId} {b : Bool} {l i m sz : Nat} {rows rows' : List (List AV)} {x : AV} (he : elemAt P t = some (none, e, sz)) (h1 : H[l]? = some (.arr T sz rows)) (hx : srcRows H x = some rows') (hl : lenOk sz rows' = true) (h0 : sz ≠ 0) (hs : x.isStr = false) (hin : i + m ≤ rows.length) :
    vcopy P H t (.row b l i m) x = some (.int .i64 (min rows'.length m : Nat), H.set l (.arr T sz (rows.take i ++ rows'.take (min rows'.length m) ++ rows.drop (i + min rows'.length m)))) := by
  simp only [vcopy, he, hx]
  rw [if_pos ⟨hl, h0, by simp [hs]⟩]
  simp only [h1]
  rw [if_pos (by simp; exact hin)]
/-- Appending to a slice that has no room. -/
theorem g_clone {t t2 e : TypeId} {sz by_ : Nat} {d2 : TypeDesc} {zc : List AV} {x : AV} {rows : List (List AV)} (he : elemAt P t = some (none, e, sz)) (hu : P.underlying t2 = some d2) (hd : isInt d2 = false) (hz : zcOf P e = some zc) (hb : byOf P e = some by_)
    (hx : srcRows H x = some rows) (hl : zc.length = sz) (h0 : sz ≠ 0) (hb0 : by_ ≠ 0) (hlo : lenOk sz rows = true) (hs : x.isStr = false) (hne : rows ≠ []) (hv : frzRows H rows = some (H, rows)) (hsz : rows.length * by_ ≤ 140737488355328) :
    vappend P H t t2 (.list .tight []) x = some (.row false H.length 0 rows.length, H ++ [.arr e sz rows]) := by
  have hn0 : ¬ rows.length = 0 := by simpa using hne
  unfold vappend vappendF
  simp only [he, hu, hd, hz, hb, hx, Bool.false_eq_true, if_false]
  rw [if_pos ⟨hl, h0, hb0, hlo, by simp [hs], rfl⟩, if_neg hn0, hv]
  simp only
  rw [if_pos ⟨by simp [lenOk], by simpa using hsz⟩]
  simp

theorem xs_body {f : Nat} {fn : Func} {code : Code} {args : List AV} {K : AV → Hp → Prop} (md : Oper → Md) (hf : P.funcs[f]? = some fn) (hb : fn.body = some code)
    (h : vc P G md H.length code (fnQ P fn K) (args ++ List.replicate (fn.ntmps - args.length) .undef) H) : XS P G f args H K :=
  (XS.pre P G).body f fn code md args H _ hf hb h

variable {md : Oper → Md} {nb : Nat} {Q : Qv} {env : List AV} {ops : Array Oper} {r : List Oper} {K : List AV → Hp → Prop}

/-- A call on this side's objects. -/
theorem w_callS {d : Tmp} {ty : TypeId} {pos : String} {aft : Array Edge} {f : Operand} {args : Array Operand} {ts : Array TypeId} {gd : Option (Nat × Bool)} {g : Nat} {cs xs : List AV} {R : AV → Hp → Prop} (hg : wantedV gd ops env = some true) (hf : ev G env f = some (.clo g cs)) (hx : evL (ev G env) args.toList = some xs) (he : enterOk P g = true)
    (hm : md ⟨some d, .call ⟨.value f, args, ts⟩, ty, pos, aft, gd⟩ = .shr) (hF : XS P G g (xs ++ cs) H R)
    (h : ∀ v H1, R v H1 → vops P G md ops r (env.set d v) H1 K) : vops P G md ops (⟨some d, .call ⟨.value f, args, ts⟩, ty, pos, aft, gd⟩ :: r) env H K := by
  refine vo_call hg rfl hf hx he ?_
  rw [hm]
  exact XS.mono hF h
theorem d_callS {d : Tmp} {ty : TypeId} {pos : String} {aft : Array Edge} {f : Operand} {args : Array Operand} {ts : Array TypeId} {gd : Option (Nat × Bool)} {g : Nat} {cs xs : List AV} {v : AV} {H1 : Hp} (hg : wantedV gd ops env = some true) (hf : ev G env f = some (.clo g cs)) (hx : evL (ev G env) args.toList = some xs) (he : enterOk P g = true)
    (hm : md ⟨some d, .call ⟨.value f, args, ts⟩, ty, pos, aft, gd⟩ = .shr) (hF : XS P G g (xs ++ cs) H fun v' H' => v' = v ∧ H' = H1)
    (h : vopsD P G md ops r (env.set d v) H1 K) : vopsD P G md ops (⟨some d, .call ⟨.value f, args, ts⟩, ty, pos, aft, gd⟩ :: r) env H K := by
  have hop : vop (XS P G) P md G env H ⟨some d, .call ⟨.value f, args, ts⟩, ty, pos, aft, gd⟩ fun v1 H' => v1 = v ∧ H' = H1 := by
    simp only [vop, hf, hx, he, if_true]
    rw [hm]
    exact hF
  simp only [vopsD, hg]
  have hc : clsOp md ⟨some d, .call ⟨.value f, args, ts⟩, ty, pos, aft, gd⟩ = 2 := by
    simp [clsOp, hm]
  rw [if_pos hc]
  exact ⟨v, H1, hop, h⟩

/-- A loop whose objects are given, none left behind. -/
theorem vc_loopX {α : Type} {c : Code} (f : α → List (Option AV)) (Hf : α → Hp) (μ : α → Nat) (a0 : α) (h0 : Wk env (updL env (f a0))) (hH : H = Hf a0)
    (step : ∀ (a : α) (Y : List AV → Hp → Prop), (∀ a', μ a' < μ a → ∀ env' H', Wk env' (updL env (f a')) → H' = Hf a' → Y env' H') → vc P G md nb c (thenQ Y Q) (updL env (f a)) (Hf a)) : vc P G md nb (.loop c) Q env H := by
  intro Y hY hw _ _
  have key : ∀ (n : Nat) (a : α), μ a = n → Y (updL env (f a)) (Hf a) := by
    intro n
    induction n using Nat.strongRecOn with
    | _ n ih =>
      intro a ha
      refine hY _ _ (step a Y fun a' hlt env' H' hwk hH' => ?_)
      subst hH'
      exact hw _ _ _ hwk (ih (μ a') (by omega) a' rfl)
  subst hH
  exact hw _ _ _ h0 (key _ a0 rfl)

theorem get_app {g : Hp} {l : Nat} {o : VO} (h : H[l]? = some o) : (H ++ g)[l]? = some o := by
  rw [List.getElem?_append_left (List.getElem?_eq_some_iff.1 h).1]; exact h
theorem get_last {o : VO} : (H ++ [o])[H.length]? = some o := by simp
theorem set_last {o o' : VO} : (H ++ [o]).set H.length o' = H ++ [o'] := by simp
theorem get_set {l l' : Nat} {o o' : VO} (h : H[l]? = some o) (hne : l' ≠ l) : (H.set l' o')[l]? = some o := by
  rw [List.getElem?_set_ne hne]; exact h
theorem get_self {l : Nat} {o o' : VO} (h : H[l]? = some o) : (H.set l o')[l]? = some o' := by
  rw [List.getElem?_set_self (List.getElem?_eq_some_iff.1 h).1]

theorem g_alloc {t : TypeId} {z : AV} {cs : List AV} {n : Nat} (hz : zrOf P t = some z) (hc : z.cells = some cs) (hn : H.length = n) : valloc P H t = some (.ptr n 0 0, H ++ [.arr t cs.length [cs]]) := by
  subst hn
  simp only [valloc, hz, Option.bind_some, vbox, hc]
theorem g_index0 {t T e : TypeId} {b : Bool} {l m sz : Nat} {rows : List (List AV)} {k : IntKind} {n : Int} (he : elemAt P t = some (none, e, sz)) (h1 : H[l]? = some (.arr T sz rows)) (h0 : 0 ≤ n) (hn : n < m) :
    (vindexAddr P H t (.row b l 0 m) (.int k n)).map (·, H) = some (.ptr l n.toNat 0, H) := by
  rw [g_index he h1 h0 hn, Nat.zero_add]
theorem g_list {t : TypeId} {e : TypeId} {sz : Nat} {k : IntKind} {n : Int} {tg : Tg} {rows : List (List AV)} {r0 : List AV} (he : elemAt P t = some (none, e, sz)) (h0 : 0 ≤ n) (hr : rows[n.toNat]? = some r0) (hs : r0.length = sz) : (vindexAddr P H t (.list tg rows) (.int k n)).map (·, H) = some (.iptr (tg == .bor) r0, H) := by
  have hl := (List.getElem?_eq_some_iff.1 hr).1
  unfold vindexAddr
  rw [he]
  simp only
  rw [if_pos ⟨h0, by omega⟩, hr]
  simp only
  rw [if_pos hs]
  rfl

/-! ### Regions whose order is drawn, with their objects' states told ahead -/
def vopsW (P : Program) (G : Glob) (md : Oper → Md) (ops : Array Oper) (wn : Nat → Nat × Nat) (h : Nat → Hp) : Nat → List Oper → List AV → Nat → (List AV → Nat → Prop) → Prop
  | _, [], env, k, K => K env k
  | i, o :: r, env, k, K => match wantedV o.guard ops env with
    | some true => if clsOp md o = 2 then k = (wn i).1 ∧ ∃ v, vop (XS P G) P md G env (h k) o (fun v1 H1 => v1 = v ∧ H1 = h (k + 1)) ∧ vopsW P G md ops wn h (i + 1) r (putE env o.dst v) (k + 1) K
      else ((wn i).1 ≤ k ∧ k ≤ (wn i).2) ∧ ∃ v, (∀ q, (wn i).1 ≤ q → q ≤ (wn i).2 → vop (XS P G) P md G env (h q) o (fun v1 H1 => v1 = v ∧ H1 = h q)) ∧ vopsW P G md ops wn h (i + 1) r (putE env o.dst v) k K
    | some false => if clsOp md o = 2 then k = (wn i).1 ∧ h (k + 1) = h k ∧ vopsW P G md ops wn h (i + 1) r (putE env o.dst (.tup [])) (k + 1) K
      else ((wn i).1 ≤ k ∧ k ≤ (wn i).2) ∧ vopsW P G md ops wn h (i + 1) r (putE env o.dst (.tup [])) k K
    | none => False

theorem vopsW_seq {wn : Nat → Nat × Nat} {h : Nat → Hp} {KK : List AV → Nat → Prop} : ∀ (n : Nat) (i : Nat) (env : List AV) (k : Nat), i + n = ops.size → vopsW P G md ops wn h i (ops.toList.drop i) env k KK → vseqW (XS P G) P md G ops wn h (List.range' i n) env k KK
  | 0, i, env, k, hn, hh => by
    rw [List.drop_of_length_le (by simp; omega)] at hh
    exact hh
  | n + 1, i, env, k, hn, hh => by
    have hi : i < ops.size := by omega
    rw [List.drop_eq_getElem_cons (by simpa using hi)] at hh
    simp only [vopsW, Array.getElem_toList] at hh
    simp only [List.range'_succ, vseqW, Array.getElem?_eq_getElem hi]
    split at hh
    · rename_i hw
      rw [hw]
      simp only
      split at hh
      · rename_i hc
        rw [if_pos hc]
        obtain ⟨h0, v, h1, h2⟩ := hh
        exact ⟨h0, v, h1, vopsW_seq n (i + 1) _ _ (by omega) h2⟩
      · rename_i hc
        rw [if_neg hc]
        obtain ⟨h0, v, h1, h2⟩ := hh
        exact ⟨h0, v, h1, vopsW_seq n (i + 1) _ _ (by omega) h2⟩
    · rename_i hw
      rw [hw]
      simp only
      split at hh
      · rename_i hc
        rw [if_pos hc]
        obtain ⟨h0, h1, h2⟩ := hh
        exact ⟨h0, h1, vopsW_seq n (i + 1) _ _ (by omega) h2⟩
      · rename_i hc
        rw [if_neg hc]
        obtain ⟨h0, h2⟩ := hh
        exact ⟨h0, vopsW_seq n (i + 1) _ _ (by omega) h2⟩
    · exact hh.elim

def hAt (H : Hp) (hs : List Hp) (q : Nat) : Hp := (H :: hs).getD q []
theorem w_regionW {id : Nat} {l : List Oper} (hs : List Hp) (hd : drawOkOf (okW md l.toArray (winOf md l.toArray)) l.toArray = true)
    (h : vopsW P G md l.toArray (winOf md l.toArray) (hAt H hs) 0 l env 0 fun env' k => Q .normal env' (hAt H hs k)) : vc P G md nb (.region id l.toArray true) Q env H := by
  refine .inr (.inl ⟨hd, hs, ?_⟩)
  have := vopsW_seq (P := P) (G := G) (md := md) (ops := l.toArray) l.length 0 env 0 (by simp) h
  rw [← List.range_eq_range'] at this
  exact this

theorem vopsW_list {wn wm : Nat → Nat × Nat} {h : Nat → Hp} {KK : List AV → Nat → Prop} : ∀ (is : List Nat) (os : List Oper) (i : Nat) (env : List AV) (k : Nat), is.map (ops[·]?) = os.map some → (∀ q j, is[q]? = some j → wm (i + q) = wn j) → vopsW P G md ops wm h i os env k KK → vseqW (XS P G) P md G ops wn h is env k KK
  | [], [], i, env, k, _, _, hh => hh
  | [], _ :: _, i, env, k, hm, _, hh => by cases hm
  | _ :: _, [], i, env, k, hm, _, hh => by cases hm
  | j :: is, o :: os, i, env, k, hm, hw, hh => by
    simp only [List.map_cons, List.cons.injEq] at hm
    obtain ⟨h1, h2⟩ := hm
    have e0 : wm i = wn j := by have := hw 0 j rfl; rwa [Nat.add_zero] at this
    have hw' : ∀ q j, is[q]? = some j → wm (i + 1 + q) = wn j := fun q j hj => by
      have := hw (q + 1) j (by simpa using hj)
      rwa [show i + (q + 1) = i + 1 + q by omega] at this
    simp only [vopsW, e0] at hh
    simp only [vseqW, h1]
    split at hh
    · rename_i hw2
      rw [hw2]
      simp only
      split at hh
      · rename_i hc
        rw [if_pos hc]
        obtain ⟨h0, v, h3, h4⟩ := hh
        exact ⟨h0, v, h3, vopsW_list is os (i + 1) _ _ h2 hw' h4⟩
      · rename_i hc
        rw [if_neg hc]
        obtain ⟨h0, v, h3, h4⟩ := hh
        exact ⟨h0, v, h3, vopsW_list is os (i + 1) _ _ h2 hw' h4⟩
    · rename_i hw2
      rw [hw2]
      simp only
      split at hh
      · rename_i hc
        rw [if_pos hc]
        obtain ⟨h0, h3, h4⟩ := hh
        exact ⟨h0, h3, vopsW_list is os (i + 1) _ _ h2 hw' h4⟩
      · rename_i hc
        rw [if_neg hc]
        obtain ⟨h0, h4⟩ := hh
        exact ⟨h0, vopsW_list is os (i + 1) _ _ h2 hw' h4⟩
    · exact hh.elim
/-- One order: the operations' places, their windows, the objects behind each change. -/
theorem one_order {l : List Oper} {K : List AV → Hp → Prop} {x y : Nat} (L : List Nat) (wn : List (Nat × Nat)) (hs : List Hp) (hp : L.isPerm (List.range l.toArray.size) = true) (hc : pairsL (fun a b => aug l.toArray x y a b || okW md l.toArray (fun i => wn.getD i (0, 0)) a b) L = true)
    (hl : L.map (l.toArray[·]?) = (L.filterMap (l[·]?)).map some)
    (h : vopsW P G md l.toArray (fun q => (L.map fun j => wn.getD j (0, 0)).getD q (0, 0)) (hAt H hs) 0 (L.filterMap (l[·]?)) env 0 fun env' k => K env' (hAt H hs k)) : oneOrder (XS P G) P md G l.toArray env H K x y := by
  refine ⟨L, fun i => wn.getD i (0, 0), hs, hp, hc, vopsW_list L _ 0 env 0 hl (fun q j hj => ?_) h⟩
  simp [List.getD, hj]
theorem w_regionO {id : Nat} {l : List Oper} (x y : Nat) (hf : freeOk l.toArray = true) (hx : (x != y && decide (x < l.toArray.size) && decide (y < l.toArray.size)) = true) (h1 : oneOrder (XS P G) P md G l.toArray env H (Q .normal) x y) (h2 : oneOrder (XS P G) P md G l.toArray env H (Q .normal) y x) : vc P G md nb (.region id l.toArray true) Q env H := by
  simp only [Bool.and_eq_true, bne_iff_ne, decide_eq_true_eq] at hx
  exact .inr (.inr ⟨hf, x, y, hx.1.1, hx.1.2, hx.2, h1, h2⟩)

variable {wn : Nat → Nat × Nat} {hh : Nat → Hp} {i k : Nat} {KK : List AV → Nat → Prop}
theorem e_op {d : Tmp} {op : Op} {ty : TypeId} {pos : String} {aft : Array Edge} {g : Option (Nat × Bool)} {v : AV} {env' : List AV} {a b : Nat} (hg : wantedV g ops env = some true) (hc : clsOp md ⟨some d, op, ty, pos, aft, g⟩ ≠ 2) (hw : wn i = (a, b)) (hk : a ≤ k ∧ k ≤ b)
    (ho : ∀ H k, (match vexec2 P md (ev G env) H ⟨some d, op, ty, pos, aft, g⟩ with | some (r, H') => k r H' | none => False) → vop (XS P G) P md G env H ⟨some d, op, ty, pos, aft, g⟩ k)
    (hx : ∀ q, a ≤ q → q ≤ b → vexec2 P md (ev G env) (hh q) ⟨some d, op, ty, pos, aft, g⟩ = some (v, hh q)) (he : env.set d v = env')
    (h : vopsW P G md ops wn hh (i + 1) r env' k KK) : vopsW P G md ops wn hh i (⟨some d, op, ty, pos, aft, g⟩ :: r) env k KK := by
  subst he
  simp only [vopsW, hg]
  rw [if_neg hc, hw]
  refine ⟨hk, v, fun q h1 h2 => ho _ _ ?_, h⟩
  rw [hx q h1 h2]
  exact ⟨rfl, rfl⟩
theorem e_eff {d : Tmp} {op : Op} {ty : TypeId} {pos : String} {aft : Array Edge} {g : Option (Nat × Bool)} {v : AV} {env' : List AV} {H0 H1 : Hp} {b : Nat} (hg : wantedV g ops env = some true) (hc : clsOp md ⟨some d, op, ty, pos, aft, g⟩ = 2) (hw : wn i = (k, b)) (h0 : hh k = H0) (h1 : hh (k + 1) = H1)
    (ho : ∀ H k, (match vexec2 P md (ev G env) H ⟨some d, op, ty, pos, aft, g⟩ with | some (r, H') => k r H' | none => False) → vop (XS P G) P md G env H ⟨some d, op, ty, pos, aft, g⟩ k)
    (hx : vexec2 P md (ev G env) H0 ⟨some d, op, ty, pos, aft, g⟩ = some (v, H1)) (he : env.set d v = env')
    (h : vopsW P G md ops wn hh (i + 1) r env' (k + 1) KK) : vopsW P G md ops wn hh i (⟨some d, op, ty, pos, aft, g⟩ :: r) env k KK := by
  subst he
  subst h0
  subst h1
  simp only [vopsW, hg]
  rw [if_pos hc, hw]
  refine ⟨rfl, v, ho _ _ ?_, h⟩
  rw [hx]
  exact ⟨rfl, rfl⟩
theorem e_eff0 {op : Op} {ty : TypeId} {pos : String} {aft : Array Edge} {g : Option (Nat × Bool)} {v : AV} {H0 H1 : Hp} {b : Nat} (hg : wantedV g ops env = some true) (hc : clsOp md ⟨none, op, ty, pos, aft, g⟩ = 2) (hw : wn i = (k, b)) (h0 : hh k = H0) (h1 : hh (k + 1) = H1)
    (ho : ∀ H k, (match vexec2 P md (ev G env) H ⟨none, op, ty, pos, aft, g⟩ with | some (r, H') => k r H' | none => False) → vop (XS P G) P md G env H ⟨none, op, ty, pos, aft, g⟩ k)
    (hx : vexec2 P md (ev G env) H0 ⟨none, op, ty, pos, aft, g⟩ = some (v, H1))
    (h : vopsW P G md ops wn hh (i + 1) r env (k + 1) KK) : vopsW P G md ops wn hh i (⟨none, op, ty, pos, aft, g⟩ :: r) env k KK := by
  subst h0
  subst h1
  simp only [vopsW, hg]
  rw [if_pos hc, hw]
  refine ⟨rfl, v, ho _ _ ?_, h⟩
  rw [hx]
  exact ⟨rfl, rfl⟩
theorem e_callS {d : Tmp} {ty : TypeId} {pos : String} {aft : Array Edge} {f : Operand} {args : Array Operand} {ts : Array TypeId} {gd : Option (Nat × Bool)} {g : Nat} {cs xs : List AV} {v : AV} {env' : List AV} {H0 H1 : Hp} {b : Nat} (hg : wantedV gd ops env = some true) (hf : ev G env f = some (.clo g cs)) (hx : evL (ev G env) args.toList = some xs) (he : enterOk P g = true)
    (hm : md ⟨some d, .call ⟨.value f, args, ts⟩, ty, pos, aft, gd⟩ = .shr) (hw : wn i = (k, b)) (h0 : hh k = H0) (h1 : hh (k + 1) = H1) (hF : XS P G g (xs ++ cs) H0 fun v' H' => v' = v ∧ H' = H1) (hE : env.set d v = env')
    (h : vopsW P G md ops wn hh (i + 1) r env' (k + 1) KK) : vopsW P G md ops wn hh i (⟨some d, .call ⟨.value f, args, ts⟩, ty, pos, aft, gd⟩ :: r) env k KK := by
  subst h0
  subst h1
  subst hE
  have hop : vop (XS P G) P md G env (hh k) ⟨some d, .call ⟨.value f, args, ts⟩, ty, pos, aft, gd⟩ fun v1 H' => v1 = v ∧ H' = hh (k + 1) := by
    simp only [vop, hf, hx, he, if_true]
    rw [hm]
    exact hF
  simp only [vopsW, hg]
  have hc : clsOp md ⟨some d, .call ⟨.value f, args, ts⟩, ty, pos, aft, gd⟩ = 2 := by
    simp [clsOp, hm]
  rw [if_pos hc, hw]
  exact ⟨rfl, v, hop, h⟩
theorem d_norm2 {env' : List AV} (he : env = env') (h : vopsW P G md ops wn hh i r env' k KK) : vopsW P G md ops wn hh i r env k KK := by subst he; exact h
theorem e_end {K' : List AV → Hp → Prop} {H' : Hp} {hs : List Hp} (hH : hAt H hs k = H') (h : K' env H') : vopsW P G md ops wn (hAt H hs) i [] env k fun env' k => thenQ K' Q .normal env' (hAt H hs k) := by
  subst hH
  exact h
theorem e_endB {id : Nat} {H' : Hp} {hs : List Hp} (hH : hAt H hs k = H') (h : Q .normal env H') : vopsW P G md ops wn (hAt H hs) i [] env k fun env' k => blockQ id Q .normal env' (hAt H hs k) := by
  subst hH
  exact h

theorem vres_cell {fn : Func} {a : Tmp} {t : TypeId} {p x : AV} (hr : fn.results = #[.cell a t]) (hp : env[a]? = some p) (hx : vload P H t p = some x) : vres P H fn env = some x := by
  simp only [vres, hr, vresL, hp, hx]
theorem vres_cell_tmp {fn : Func} {a b : Tmp} {t : TypeId} {p x y : AV} (hr : fn.results = #[.cell a t, .tmp b]) (hp : env[a]? = some p) (hx : vload P H t p = some x) (hy : env[b]? = some y) : vres P H fn env = some (.tup [x, y]) := by
  simp only [vres, hr, vresL, hp, hx, hy]
theorem g_vload {t T : TypeId} {l i k sz : Nat} {rows : List (List AV)} {r : List AV} {x : AV} (h1 : H[l]? = some (.arr T sz rows)) (h2 : rows[i]? = some r) (h3 : ldCells P t (r.drop k) = some x) : vload P H t (.ptr l i k) = some x := by
  simp only [vload, h1, h2, h3]

theorem accR {L n : Nat} {pgs news : List (List AV)} {t t2 e : TypeId} {sz by_ : Nat} {d2 : TypeDesc} {zc : List AV} {x : AV} (hL : (pgs = [] ∧ H.length ≤ L) ∨ (pgs ≠ [] ∧ H[L]? = some (.arr e sz pgs))) (hn : H.length = n) (he : elemAt P t = some (none, e, sz)) (hu : P.underlying t2 = some d2) (hd : isInt d2 = false) (hz : zcOf P e = some zc) (hb : byOf P e = some by_)
    (hx : srcRows H x = some news) (hl : zc.length = sz) (h0 : sz ≠ 0) (hb0 : by_ ≠ 0) (hlo : lenOk sz news = true) (hs : x.isStr = false) (hne : news ≠ []) (hsz : (pgs.length + news.length) * by_ ≤ 140737488355328) :
    vappendR P H t t2 (pval L pgs) x = some (.row false n 0 (pgs.length + news.length), H.set L .dead ++ [.arr e sz (pgs ++ news)]) := by
  subst hn
  have hn0 : ¬ news.length = 0 := by simpa using hne
  unfold vappendR vappendF
  simp only [he, hu, hd, hz, hb, hx, Bool.false_eq_true, if_false]
  rw [if_pos ⟨hl, h0, hb0, hlo, by simp [hs], by unfold pval; split <;> rfl⟩, if_neg hn0]
  rcases hL with ⟨rfl, hL⟩ | ⟨hp, hL⟩
  · simp only [pval, if_true]
    rw [if_pos (by simpa using hsz), List.set_eq_of_length_le hL]
    simp
  · simp only [pval, if_neg hp, hL]
    rw [if_pos (by refine ⟨?_, ?_, ?_⟩ <;> first | trivial | exact hsz | omega | simp)]
    simp
theorem g_build1 {t e : TypeId} {sz n : Nat} {zc cs : List AV} {x : AV} (he : elemAt P t = some (none, e, sz)) (hz : zcOf P e = some zc) (hl : zc.length = sz ∧ sz ≠ 0 ∧ 1 * sz ≤ 2 ^ 24) (hc : x.cells = some cs) (hs : cs.length = sz) (hn : H.length = n) : vbuildSlice P H t 1 [(0, x)] = some (.row true n 0 1, H ++ [.arr e sz [cs]]) := by
  subst hn
  simp only [vbuildSlice, he, hz]
  rw [if_pos hl]
  simp [vfillRows, hc, hs]
end
end Go.Vi
end
section
set_option autoImplicit false
set_option linter.unusedVariables false
set_option linter.unusedSimpArgs false
namespace Go.Vi
def rnone (n : Nat) : List (Option AV) := List.replicate n none
def rundef (n : Nat) : List (Option AV) := List.replicate n (some .undef)
section
variable {P : Program} {G : Glob} {md : Oper → Md} {ops : Array Oper} {r : List Oper} {env : List AV} {H : Hp} {K : List AV → Hp → Prop}
/-- No call of a function by its value. -/
def plainOp : Op → Bool
  | .call ⟨.value _, _, _⟩ | .call ⟨.invoke _ _, _, _⟩ | .next _ _ => false
  | _ => true
theorem plain_vop {o : Oper} (hp : plainOp o.op = true) : ∀ k, (match vexec2 P md (ev G env) H o with | some (r, H') => k r H' | none => False) → vop (XS P G) P md G env H o k := by
  intro k h
  unfold vop
  split
  · rename_i ho
    rw [ho] at hp
    cases hp
  · rename_i ho
    rw [ho] at hp
    cases hp
  · rename_i ho
    rw [ho] at hp
    cases hp
  · exact h
/-- The next step of a walk over a map. -/
theorem w_next {d : Tmp} {x : Operand} {ty : TypeId} {pos : String} {aft : Array Edge} {g : Option (Nat × Bool)} {li l n : Nat} {seen : List Nat} {es : List (Int × AV)} (hg : wantedV g ops env = some true) (hx : ev G env x = some (.ptr li 0 0)) (h1 : H[li]? = some (.iter l n seen)) (h2 : H[l]? = some (.map es)) (hn : es.length = n)
    (ha : (∀ j, j < n → j ∈ seen) → vops P G md ops r (env.set d (.tup [.bool false])) H K)
    (hb : ∀ j e, es[j]? = some e → j ∉ seen → vops P G md ops r (env.set d (.tup [.bool true, .int .i64 e.1, e.2])) (H.set li (.iter l n (seen ++ [j]))) K) : vops P G md ops (⟨some d, .next x false, ty, pos, aft, g⟩ :: r) env H K := by
  refine ⟨env, Wk.refl _, ?_⟩
  simp only [hg, vop, hx, vnext, h1, h2]
  exact ⟨hn, ha, hb⟩
theorem wN {d : Tmp} {op : Op} {ty : TypeId} {pos : String} {aft : Array Edge} {g : Option (Nat × Bool)} {v : AV} {H' : Hp} (hg : wantedV g ops env = some true) (hx : vexec2 P md (ev G env) H ⟨some d, op, ty, pos, aft, g⟩ = some (v, H')) (hp : plainOp op = true)
    (h : vops P G md ops r (env.set d v) H' K) : vops P G md ops (⟨some d, op, ty, pos, aft, g⟩ :: r) env H K := w_opN hg hx rfl (plain_vop hp) h
theorem dN {d : Tmp} {op : Op} {ty : TypeId} {pos : String} {aft : Array Edge} {g : Option (Nat × Bool)} {v : AV} (hg : wantedV g ops env = some true) (hx : vexec2 P md (ev G env) H ⟨some d, op, ty, pos, aft, g⟩ = some (v, H)) (hp : plainOp op = true)
    (h : vopsD P G md ops r (env.set d v) H K) : vopsD P G md ops (⟨some d, op, ty, pos, aft, g⟩ :: r) env H K := d_opH hg hx (.inr rfl) rfl rfl (plain_vop hp) h
theorem wS {d : Tmp} {op : Op} {ty : TypeId} {pos : String} {aft : Array Edge} {g : Option (Nat × Bool)} (hg : wantedV g ops env = some false)
    (h : vops P G md ops r (env.set d (.tup [])) H K) : vops P G md ops (⟨some d, op, ty, pos, aft, g⟩ :: r) env H K := w_skipN hg rfl h
theorem dS {d : Tmp} {op : Op} {ty : TypeId} {pos : String} {aft : Array Edge} {g : Option (Nat × Bool)} (hg : wantedV g ops env = some false)
    (h : vopsD P G md ops r (env.set d (.tup [])) H K) : vopsD P G md ops (⟨some d, op, ty, pos, aft, g⟩ :: r) env H K := d_skipN hg rfl h
end
/-! ### Ways that meet within a region -/
section
variable {P : Program} {G : Glob} {md : Oper → Md} {ops : Array Oper} {l : List Oper} {env : List AV} {H : Hp} {K : List AV → Hp → Prop}
theorem w_forget {env' : List AV} (hw : Wk env env') (h : vops P G md ops l env' H K) : vops P G md ops l env H K := by
  cases l with
  | nil => obtain ⟨e1, h1, h2⟩ := h; exact ⟨e1, hw.trans h1, h2⟩
  | cons o r => obtain ⟨e1, h1, h2⟩ := h; exact ⟨e1, hw.trans h1, h2⟩
theorem set_same {s : Nat} {v : AV} (h : env[s]? = some v) : env.set s v = env := by
  obtain ⟨h1, h2⟩ := List.getElem?_eq_some_iff.1 h
  subst h2
  exact List.set_getElem_self h1
/-- 'and': n operations on, the slots that D tells hold what is known. -/
theorem w_and (n s : Nat) (D : Bool → List (Option AV)) {c b : Bool} (hs : env[s]? = some (.bool c))
    (ht : c = true → (∀ env', Wk env' (updL env (D b)) → vops P G md ops (l.drop n) env' H K) → vops P G md ops l (env.set s (.bool true)) H K)
    (hf : c = false → (∀ env', Wk env' (updL env (D false)) → vops P G md ops (l.drop n) env' H K) → vops P G md ops l (env.set s (.bool false)) H K)
    (hJ : vops P G md ops (l.drop n) (updL env (D (c && b))) H K) : vops P G md ops l env H K := by
  cases c with
  | true =>
    have := ht rfl fun env' hw => w_forget hw hJ
    rwa [set_same hs] at this
  | false =>
    have := hf rfl fun env' hw => w_forget hw hJ
    rwa [set_same hs] at this
/-- 'or'. -/
theorem w_or (n s : Nat) (D : Bool → List (Option AV)) {c b : Bool} (hs : env[s]? = some (.bool c))
    (ht : c = true → (∀ env', Wk env' (updL env (D true)) → vops P G md ops (l.drop n) env' H K) → vops P G md ops l (env.set s (.bool true)) H K)
    (hf : c = false → (∀ env', Wk env' (updL env (D b)) → vops P G md ops (l.drop n) env' H K) → vops P G md ops l (env.set s (.bool false)) H K)
    (hJ : vops P G md ops (l.drop n) (updL env (D (c || b))) H K) : vops P G md ops l env H K := by
  cases c with
  | true =>
    have := ht rfl fun env' hw => w_forget hw hJ
    rwa [set_same hs] at this
  | false =>
    have := hf rfl fun env' hw => w_forget hw hJ
    rwa [set_same hs] at this
end
/-! ### Shorter names -/
section
variable {P : Program} {G : Glob} {md : Oper → Md} {ops : Array Oper} {env : List AV} {H : Hp} {nb : Nat} {Q : Qv}
theorem we {K' : List AV → Hp → Prop} {env' : List AV} (he : env = env') (h : K' env' H) : vops P G md ops [] env H (thenQ K' Q .normal) := w_end he h
theorem vs {x y : Code} (h : vc P G md nb x (thenQ (fun env H => vc P G md nb y Q env H) Q) env H) : vc P G md nb (.seq x y) Q env H := vc_seq h
/-- All ways through the first part meet: some slots known anew, some forgotten; the objects are told. -/
theorem vc_meet {α : Type} {x y : Code} (f : α → List (Option AV)) (Hf : α → Hp) (h : ∀ Y : List AV → Hp → Prop, (∀ a env' H', nb ≤ (Hf a).length → H' = Hf a → Wk env' (updL env (f a)) → Y env' H') → vc P G md nb x (thenQ Y Q) env H)
    (hJ : ∀ a, nb ≤ (Hf a).length → vc P G md nb y Q (updL env (f a)) (Hf a)) : vc P G md nb (.seq x y) Q env H := by
  refine vc_join (fun e H' => ∃ a, e = updL env (f a) ∧ H' = Hf a) (h _ fun a env' H' hn hH hw => ?_) (fun e H' hn hj => ?_)
  · subst hH; exact ⟨_, _, [], (List.append_nil _).symm, hn, hw, .inl rfl, a, rfl, rfl⟩
  · obtain ⟨a, rfl, rfl⟩ := hj; exact hJ a hn
/-- The same; the objects stay. -/
theorem vc_meetS {α : Type} {x y : Code} (f : α → List (Option AV)) (hn : nb ≤ H.length) (h : ∀ Y : List AV → Hp → Prop, (∀ a env', Wk env' (updL env (f a)) → Y env' H) → vc P G md nb x (thenQ Y Q) env H)
    (hJ : ∀ a, vc P G md nb y Q (updL env (f a)) H) : vc P G md nb (.seq x y) Q env H :=
  vc_meet f (fun _ => H) (fun Y hY => h Y fun a env' hw => hY a env' H hn rfl hw) (fun a _ => hJ a)
/-- The same; objects at the end are left behind. -/
theorem vc_meetU {α : Type} {x y : Code} (f : α → List (Option AV)) (Hf : α → Hp) (hcl : ∀ a, envB (Hf a).length (updL env (f a)) ∧ heapB (Hf a).length (Hf a)) (h : ∀ Y : List AV → Hp → Prop, (∀ a env' H' g, nb ≤ (Hf a).length → H' = Hf a ++ g → Wk env' (updL env (f a)) → Y env' H') → vc P G md nb x (thenQ Y Q) env H)
    (hJ : ∀ a, nb ≤ (Hf a).length → vc P G md nb y Q (updL env (f a)) (Hf a)) : vc P G md nb (.seq x y) Q env H := by
  refine vc_join (fun e H' => ∃ a, e = updL env (f a) ∧ H' = Hf a) (h _ fun a env' H' g hn hH hw => ?_) (fun e H' hn hj => ?_)
  · exact ⟨_, _, g, hH, hn, hw, .inr (hcl a), a, rfl, rfl⟩
  · obtain ⟨a, rfl, rfl⟩ := hj; exact hJ a hn
theorem wr {id : Nat} {l : List Oper} (h : vops P G md l.toArray l env H (Q .normal)) : vc P G md nb (.region id l.toArray false) Q env H := w_region h
end
end Go.Vi
end
section
set_option autoImplicit false
set_option maxRecDepth 100000
set_option linter.unusedVariables false
namespace Go.Vi
section
variable {P : Program} {G : Glob} {md : Oper → Md} {ops : Array Oper} {r : List Oper} {env : List AV} {H : Hp} {K : List AV → Hp → Prop} {wn : Nat → Nat × Nat} {hh : Nat → Hp} {i k : Nat} {J : List AV → Nat → Prop}
theorem v6 {x0 x1 x2 x3 x4 x5 : AV} (he : env = (x0::x1::x2::x3::x4::x5::[])) (h : vops P G md ops r (x0::x1::x2::x3::x4::x5::[]) H K) : vops P G md ops r env H K := by rw [he]; exact h
theorem v9 {x0 x1 x2 x3 x4 x5 x6 x7 x8 : AV} (he : env = (x0::x1::x2::x3::x4::x5::x6::x7::x8::[])) (h : vops P G md ops r (x0::x1::x2::x3::x4::x5::x6::x7::x8::[]) H K) : vops P G md ops r env H K := by rw [he]; exact h
theorem v16 {x0 x1 x2 x3 x4 x5 x6 x7 x8 x9 x10 x11 x12 x13 x14 x15 : AV} (he : env = (x0::x1::x2::x3::x4::x5::x6::x7::x8::x9::x10::x11::x12::x13::x14::x15::[])) (h : vops P G md ops r (x0::x1::x2::x3::x4::x5::x6::x7::x8::x9::x10::x11::x12::x13::x14::x15::[]) H K) : vops P G md ops r env H K := by rw [he]; exact h
theorem v19 {x0 x1 x2 x3 x4 x5 x6 x7 x8 x9 x10 x11 x12 x13 x14 x15 x16 x17 x18 : AV} (he : env = (x0::x1::x2::x3::x4::x5::x6::x7::x8::x9::x10::x11::x12::x13::x14::x15::x16::x17::x18::[])) (h : vops P G md ops r (x0::x1::x2::x3::x4::x5::x6::x7::x8::x9::x10::x11::x12::x13::x14::x15::x16::x17::x18::[]) H K) : vops P G md ops r env H K := by rw [he]; exact h
theorem v24 {x0 x1 x2 x3 x4 x5 x6 x7 x8 x9 x10 x11 x12 x13 x14 x15 x16 x17 x18 x19 x20 x21 x22 x23 : AV} (he : env = (x0::x1::x2::x3::x4::x5::x6::x7::x8::x9::x10::x11::x12::x13::x14::x15::x16::x17::x18::x19::x20::x21::x22::x23::[])) (h : vops P G md ops r (x0::x1::x2::x3::x4::x5::x6::x7::x8::x9::x10::x11::x12::x13::x14::x15::x16::x17::x18::x19::x20::x21::x22::x23::[]) H K) : vops P G md ops r env H K := by rw [he]; exact h
theorem v30 {x0 x1 x2 x3 x4 x5 x6 x7 x8 x9 x10 x11 x12 x13 x14 x15 x16 x17 x18 x19 x20 x21 x22 x23 x24 x25 x26 x27 x28 x29 : AV} (he : env = (x0::x1::x2::x3::x4::x5::x6::x7::x8::x9::x10::x11::x12::x13::x14::x15::x16::x17::x18::x19::x20::x21::x22::x23::x24::x25::x26::x27::x28::x29::[])) (h : vops P G md ops r (x0::x1::x2::x3::x4::x5::x6::x7::x8::x9::x10::x11::x12::x13::x14::x15::x16::x17::x18::x19::x20::x21::x22::x23::x24::x25::x26::x27::x28::x29::[]) H K) : vops P G md ops r env H K := by rw [he]; exact h
theorem v47 {x0 x1 x2 x3 x4 x5 x6 x7 x8 x9 x10 x11 x12 x13 x14 x15 x16 x17 x18 x19 x20 x21 x22 x23 x24 x25 x26 x27 x28 x29 x30 x31 x32 x33 x34 x35 x36 x37 x38 x39 x40 x41 x42 x43 x44 x45 x46 : AV} (he : env = (x0::x1::x2::x3::x4::x5::x6::x7::x8::x9::x10::x11::x12::x13::x14::x15::x16::x17::x18::x19::x20::x21::x22::x23::x24::x25::x26::x27::x28::x29::x30::x31::x32::x33::x34::x35::x36::x37::x38::x39::x40::x41::x42::x43::x44::x45::x46::[])) (h : vops P G md ops r (x0::x1::x2::x3::x4::x5::x6::x7::x8::x9::x10::x11::x12::x13::x14::x15::x16::x17::x18::x19::x20::x21::x22::x23::x24::x25::x26::x27::x28::x29::x30::x31::x32::x33::x34::x35::x36::x37::x38::x39::x40::x41::x42::x43::x44::x45::x46::[]) H K) : vops P G md ops r env H K := by rw [he]; exact h
end
end Go.Vi
end
