/- Vi, part Y: steps for walks that a small program prints. -/
import Derived.Test.YtenfndlbldffgaaDoorViT
set_option autoImplicit false
set_option linter.unusedVariables false
set_option linter.unusedSimpArgs false
namespace Go.Vi

/-- Slots with some of them changed. -/
def updL : List AV → List (Option AV) → List AV
  | [], _ => []
  | x :: r, [] => x :: r
  | x :: r, none :: s => x :: updL r s
  | _ :: r, some y :: s => y :: updL r s

theorem st0 {x v : AV} {l : List AV} : (x :: l).set 0 v = v :: l := rfl
theorem st1 {x v : AV} {l : List AV} {n : Nat} : (x :: l).set (n + 1) v = x :: l.set n v := rfl
section
variable {P : Program} {G : Glob} {md : Oper → Md} {nb : Nat} {Q : Qv} {env : List AV} {H : Hp} {ops : Array Oper} {r : List Oper} {K : List AV → Hp → Prop}

/-- What a guard says. -/
theorem wanted_t {j : Nat} {want : Bool} (gs : Nat) (hd : (ops[j]?).bind (·.dst) = some gs) (hb : env[gs]? = some (.bool want)) : wantedV (some (j, want)) ops env = some true := by
  simp only [wantedV, hd, Option.bind_some, hb]; simp
theorem wanted_f {j : Nat} {want : Bool} (gs : Nat) (hd : (ops[j]?).bind (·.dst) = some gs) (hb : env[gs]? = some (.bool (!want))) : wantedV (some (j, want)) ops env = some false := by
  simp only [wantedV, hd, Option.bind_some, hb]; simp
theorem wanted_k {j : Nat} {want : Bool} (gs : Nat) (hd : (ops[j]?).bind (·.dst) = some gs) (hb : env[gs]? = some (.tup [])) : wantedV (some (j, want)) ops env = some false := by
  simp only [wantedV, hd, Option.bind_some, hb]

theorem vc_norm {c : Code} {env' : List AV} {H' : Hp} (he : env = env') (hH : H = H') (h : vc P G md nb c Q env' H') : vc P G md nb c Q env H := by subst he; subst hH; exact h

/-- A loop that changes some slots; the objects are given. -/
theorem vc_loopH {α : Type} {c : Code} (f : α → List (Option AV)) (Hf : α → Hp) (μ : α → Nat) (a0 : α) (h0 : Wk env (updL env (f a0))) (hH : H = Hf a0)
    (hcl : ∀ a, nb ≤ (Hf a).length ∧ envB (Hf a).length (updL env (f a)) ∧ heapB (Hf a).length (Hf a))
    (step : ∀ (a : α) (Y : List AV → Hp → Prop), (∀ a', μ a' < μ a → ∀ env' H' g, Wk env' (updL env (f a')) → H' = Hf a' ++ g → Y env' H') → vc P G md nb c (thenQ Y Q) (updL env (f a)) (Hf a)) : vc P G md nb (.loop c) Q env H :=
  vc_loop (fun a => updL env (f a)) Hf μ a0 h0 hH hcl step
/-- The objects stay. -/
theorem vc_loopU {α : Type} {c : Code} (f : α → List (Option AV)) (μ : α → Nat) (a0 : α) (h0 : Wk env (updL env (f a0)))
    (hcl : ∀ a, nb ≤ H.length ∧ envB H.length (updL env (f a)) ∧ heapB H.length H)
    (step : ∀ (a : α) (Y : List AV → Hp → Prop), (∀ a', μ a' < μ a → ∀ env' H' g, Wk env' (updL env (f a')) → H' = H ++ g → Y env' H') → vc P G md nb c (thenQ Y Q) (updL env (f a)) H) : vc P G md nb (.loop c) Q env H :=
  vc_loop (fun a => updL env (f a)) (fun _ => H) μ a0 h0 rfl hcl step
theorem leafB_lent {n : Nat} {x : AV} (h : lend0 [] x = some x) : leafB n x := by
  cases x with
  | ptr l i k => simp [lend0] at h
  | row t l i m => simp [lend0, rowsOf] at h
  | sub l i k es m => simp [lend0, rowsOf] at h
  | mapr l => cases h
  | agg cs => cases h
  | tup cs => cases h
  | iface t v => cases h
  | clo f cs =>
    cases cs with
    | nil => rfl
    | cons a r => cases h
  | _ => trivial
theorem cellsB_lent {n : Nat} : ∀ {cs : List AV}, mapL (lend0 []) cs = some cs → cellsB n cs
  | [], _ => trivial
  | x :: r, h => by
    unfold mapL at h
    split at h
    · rename_i y ys h1 h2
      cases h
      exact ⟨leafB_lent h1, cellsB_lent h2⟩
    · cases h
theorem IsL.below {n : Nat} {x : AV} (h : IsL x) : leafB n x := by
  rcases h with rfl | ⟨t, rows, rfl⟩ <;> trivial
theorem IsL.belowV {n : Nat} {x : AV} (h : IsL x) : valB n x := by
  rcases h with rfl | ⟨t, rows, rfl⟩ <;> trivial

theorem isVal_int {k : IntKind} {n : Int} : (AV.int k n).isVal = true := rfl
theorem isVal_bool {b : Bool} : (AV.bool b).isVal = true := rfl
theorem isVal_str {b : ByteArray} : (AV.str b).isVal = true := rfl
theorem isVal_nils : AV.nils.isVal = true := rfl
theorem isVal_loose {rows : List (List AV)} : (AV.list .loose rows).isVal = true := rfl
theorem mapL_nil {α β : Type} {f : α → Option β} : mapL f [] = some [] := rfl
theorem mapL_cons {α β : Type} {f : α → Option β} {x : α} {y : β} {r : List α} {ys : List β} (h1 : f x = some y) (h2 : mapL f r = some ys) : mapL f (x :: r) = some (y :: ys) := by simp only [mapL, h1, h2]
theorem mapL_app {α β : Type} {f : α → Option β} {x : α} {y : β} {r : List α} {ys : List β} (h1 : f x = some y) (h2 : mapL f r = some ys) : mapL f ([x] ++ r) = some (y :: ys) := by simp only [List.cons_append, List.nil_append, mapL, h1, h2]
theorem lend_agg {cs ys : List AV} (h : mapL (lend0 H) cs = some ys) : lend H (.agg cs) = some (.agg ys) := by simp only [lend, h, Option.map_some]
theorem lend_cloG {g : Nat} {cs ys : List AV} (h : mapL (lend0 H) cs = some ys) : lend H (.clo g cs) = some (.clo g ys) := by simp only [lend, h, Option.map_some]
theorem lend0_ptr {l i k : Nat} {T : TypeId} {sz : Nat} {rows : List (List AV)} {r : List AV} (hl : H[l]? = some (.arr T sz rows)) (hr : rows[i]? = some r) (hv : (r.drop k).all AV.isVal = true) : lend0 H (.ptr l i k) = some (.iptr true (r.drop k)) := by
  simp only [lend0, hl, hr]
  rw [if_pos hv]
theorem lend_ptr {l i k : Nat} {T : TypeId} {sz : Nat} {rows : List (List AV)} {r : List AV} (hl : H[l]? = some (.arr T sz rows)) (hr : rows[i]? = some r) (hv : (r.drop k).all AV.isVal = true) : lend H (.ptr l i k) = some (.iptr true (r.drop k)) := lend0_ptr hl hr hv
def envN (n : Nat) (H : Hp) : List AV → Prop
  | [] => True
  | x :: r => valN n H x ∧ envN n H r
def heapN (n : Nat) (H : Hp) : Hp → Prop
  | [] => True
  | x :: r => objN n H x ∧ heapN n H r
theorem envN_mem {n : Nat} {H : Hp} : ∀ {e : List AV}, envN n H e → ∀ y ∈ e, valN n H y
  | [], _, y, h => by cases h
  | x :: r, h, y, hy => by
    rcases List.mem_cons.1 hy with rfl | hy
    · exact h.1
    · exact envN_mem h.2 y hy
theorem heapN_mem {n : Nat} {H : Hp} : ∀ {e : Hp}, heapN n H e → ∀ y ∈ e, objN n H y
  | [], _, y, h => by cases h
  | x :: r, h, y, hy => by
    rcases List.mem_cons.1 hy with rfl | hy
    · exact h.1
    · exact heapN_mem h.2 y hy
/-- Objects may bear other names behind each round. -/
theorem vc_loopN {α : Type} {c : Code} (f : α → List (Option AV)) (Hf : α → Hp) (μ : α → Nat) (a0 : α) (σ0 : List Nat) (h0 : RenE σ0 (updL env (f a0)) env) (hnd : σ0.Nodup) (hlow : ∀ l, l < nb → σ0[l]? = some l) (hobj : RenH σ0 H σ0 (Hf a0))
    (hcl : ∀ a, nb ≤ (Hf a).length ∧ envN nb (Hf a) (updL env (f a)) ∧ heapN nb (Hf a) (Hf a))
    (step : ∀ (a : α) (Y : List AV → Hp → Prop), (∀ a', μ a' < μ a → ∀ env' H' σ, RenE σ (updL env (f a')) env' → σ.Nodup → (∀ l, l < nb → σ[l]? = some l) → RenH σ H' σ (Hf a') → Y env' H') → vc P G md nb c (thenQ Y Q) (updL env (f a)) (Hf a)) : vc P G md nb (.loop c) Q env H :=
  vc_loopR (fun a => updL env (f a)) Hf μ a0 σ0 h0 hnd hlow hobj (fun a => ⟨(hcl a).1, envN_mem (hcl a).2.1, heapN_mem (hcl a).2.2⟩) step
theorem IsL.ren0 {σ : List Nat} {x : AV} (h : IsL x) : Vi.ren0 σ x = some x := by
  rcases h with rfl | ⟨t, rows, rfl⟩ <;> rfl
theorem IsL.ren1 {σ : List Nat} {x : AV} (h : IsL x) : Vi.ren1 σ x = some x := by
  rcases h with rfl | ⟨t, rows, rfl⟩ <;> rfl
theorem IsL.leafN {n : Nat} {H : Hp} {x : AV} (h : IsL x) : Vi.leafN n H x := by
  rcases h with rfl | ⟨t, rows, rfl⟩ <;> trivial
theorem IsL.valN {n : Nat} {H : Hp} {x : AV} (h : IsL x) : Vi.valN n H x := by
  rcases h with rfl | ⟨t, rows, rfl⟩ <;> trivial
theorem ren_arr {σ : List Nat} {T : TypeId} {sz : Nat} {rows rows' : List (List AV)} (h : mapL (mapL (Vi.ren0 σ)) rows = some rows') : renO σ (.arr T sz rows) = some (.arr T sz rows') := by
  simp only [renO, h, Option.map_some]
theorem leaf_val {σ : List Nat} {x : AV} (h : x.isVal = true) : Vi.ren0 σ x = some x := by
  cases x with
  | clo f cs =>
    cases cs with
    | nil => rfl
    | cons a r => cases h
  | undef => cases h
  | ptr l i k => cases h
  | row t l i n => cases h
  | sub l i k es n => cases h
  | agg cs => cases h
  | tup cs => cases h
  | mapr l => cases h
  | iface t v => cases h
  | _ => rfl
theorem leafN_val {n : Nat} {H : Hp} {x : AV} (h : x.isVal = true) : Vi.leafN n H x := by
  cases x <;> first | trivial | cases h
theorem mapL_id {α : Type} {f : α → Option α} : ∀ {xs : List α}, (∀ x ∈ xs, f x = some x) → mapL f xs = some xs
  | [], _ => rfl
  | x :: r, h => mapL_cons (h x (by simp)) (mapL_id fun y hy => h y (by simp [hy]))
/-- Rows of values bear no names. -/
theorem ren_rows {σ : List Nat} {rows : List (List AV)} (h : allVal rows = true) : mapL (mapL (Vi.ren0 σ)) rows = some rows :=
  mapL_id fun r hr => mapL_id fun x hx => leaf_val (List.all_eq_true.1 (List.all_eq_true.1 h r hr) x hx)
theorem rowsN_val {n : Nat} {H : Hp} {rows : List (List AV)} (h : allVal rows = true) : ∀ r ∈ rows, cellsN n H r :=
  fun r hr x hx => leafN_val (List.all_eq_true.1 (List.all_eq_true.1 h r hr) x hx)

/-- A list that grows: nil, or an object. -/
def pval (L : Nat) (pgs : List (List AV)) : AV := if pgs = [] then .nils else .row false L 0 pgs.length
def pobj (e : TypeId) (sz : Nat) (pgs : List (List AV)) : VO := if pgs = [] then .dead else .arr e sz pgs
theorem frzRows_val {H : Hp} : ∀ {rows : List (List AV)}, (∀ r ∈ rows, ∀ x ∈ r, frzCell H x = some (H, x)) → frzRows H rows = some (H, rows)
  | [], _ => rfl
  | r :: s, h => by
    have hc : ∀ {cs : List AV}, (∀ x ∈ cs, frzCell H x = some (H, x)) → frzCells H cs = some (H, cs) := by
      intro cs
      induction cs with
      | nil => intro _; rfl
      | cons x r ih => intro h; simp only [frzCells, h x (by simp), ih (fun y hy => h y (by simp [hy]))]
    simp only [frzRows, hc (h r (by simp)), frzRows_val (rows := s) (fun r hr => h r (by simp [hr]))]
theorem frz_val {H : Hp} {x : AV} (h : x.isVal = true) : frzCell H x = some (H, x) := by
  cases x <;> first | rfl | cases h
theorem acc_append {H : Hp} {L : Nat} {pgs news : List (List AV)} {t t2 e : TypeId} {sz by_ : Nat} {d2 : TypeDesc} {zc : List AV} {x : AV} (hL : H[L]? = some (pobj e sz pgs)) (he : elemAt P t = some (none, e, sz)) (hu : P.underlying t2 = some d2) (hd : isInt d2 = false) (hz : zcOf P e = some zc) (hb : byOf P e = some by_)
    (hx : srcRows H x = some news) (hl : zc.length = sz) (h0 : sz ≠ 0) (hb0 : by_ ≠ 0) (hlo : lenOk sz news = true) (hs : x.isStr = false) (hne : news ≠ []) (hv : allVal news = true) (hsz : (pgs.length + news.length) * by_ ≤ 140737488355328) :
    vappend P H t t2 (pval L pgs) x = some (.row false H.length 0 (pgs.length + news.length), H.set L .dead ++ [.arr e sz (pgs ++ news)]) := by
  have hf : frzRows H news = some (H, news) := frzRows_val fun r hr x hx => frz_val (List.all_eq_true.1 (List.all_eq_true.1 hv r hr) x hx)
  have hn0 : ¬ news.length = 0 := by simpa using hne
  unfold vappend vappendF
  simp only [he, hu, hd, hz, hb, hx, Bool.false_eq_true, if_false]
  rw [if_pos ⟨hl, h0, hb0, hlo, by simp [hs], by unfold pval; split <;> rfl⟩, if_neg hn0, hf]
  simp only
  by_cases hp : pgs = []
  · subst hp
    simp only [pobj, if_true] at hL
    have hset : H.set L .dead = H := by
      obtain ⟨h1, h2⟩ := List.getElem?_eq_some_iff.1 hL
      rw [← h2]; simp
    simp only [pval, if_true, hset]
    rw [if_pos (by simpa using hsz)]
    simp
  · simp only [pobj, if_neg hp] at hL
    simp only [pval, if_neg hp, hL]
    rw [if_pos (by refine ⟨?_, ?_, ?_⟩ <;> first | trivial | exact hsz | omega | simp)]
    simp
theorem pval_snoc {σ : List Nat} {L l' : Nat} {pgs : List (List AV)} {r : List AV} (h : σ[L]? = some l') : Vi.ren1 σ (pval L (pgs ++ [r])) = some (.row false l' 0 (pgs.length + 1)) := by
  simp [pval, Vi.ren1, Vi.ren0, h]
theorem pobj_snoc {σ : List Nat} {e : TypeId} {sz : Nat} {pgs : List (List AV)} {r : List AV} (h : allVal (pgs ++ [r]) = true) : renO σ (pobj e sz (pgs ++ [r])) = some (.arr e sz (pgs ++ [r])) := by
  have : pobj e sz (pgs ++ [r]) = .arr e sz (pgs ++ [r]) := by simp [pobj]
  rw [this]
  exact ren_arr (ren_rows h)
theorem pval_ren {σ : List Nat} {L : Nat} {pgs : List (List AV)} (h : σ[L]? = some L) : Vi.ren1 σ (pval L pgs) = some (pval L pgs) := by
  unfold pval
  split <;> simp [Vi.ren1, Vi.ren0, h]
theorem pobj_ren {σ : List Nat} {H2 : Hp} {l : Nat} {e : TypeId} {sz : Nat} {pgs : List (List AV)} (hv : allVal pgs = true) (h : H2[l]? = some (pobj e sz pgs)) : pobj e sz pgs = .dead ∨ ∃ o', H2[l]? = some o' ∧ renO σ (pobj e sz pgs) = some o' := by
  refine .inr ⟨_, h, ?_⟩
  unfold pobj
  split
  · rfl
  · exact ren_arr (ren_rows hv)
theorem pval_N {n : Nat} {H : Hp} {L : Nat} {e : TypeId} {sz : Nat} {pgs : List (List AV)} (h : H[L]? = some (pobj e sz pgs)) : Vi.valN n H (pval L pgs) := by
  unfold pval
  split
  · trivial
  · rename_i hp
    exact .inr ⟨_, h, by simp [pobj, hp, VO.live]⟩
theorem pobj_N {n : Nat} {H : Hp} {e : TypeId} {sz : Nat} {pgs : List (List AV)} (hv : allVal pgs = true) : objN n H (pobj e sz pgs) := by
  unfold pobj
  split
  · trivial
  · exact rowsN_val hv
/-- What comes back of it. -/
def plist (pgs : List (List AV)) : AV := if pgs = [] then .nils else .list .loose pgs
theorem retD_val : ∀ {d : Nat} {H : Hp} {x : AV}, x.isVal = true → retD d H x = some x
  | 0, H, x, h => by simp [retD, h]
  | d + 1, H, x, h => by cases x <;> first | (simp [retD, h]; done) | cases h
theorem ret_pval {H : Hp} {L : Nat} {e : TypeId} {sz : Nat} {pgs : List (List AV)} (hv : allVal pgs = true) (h : H[L]? = some (pobj e sz pgs)) : ret1 H (pval L pgs) = some (plist pgs) := by
  unfold pval plist
  split
  · rfl
  · rename_i hp
    simp only [pobj, if_neg hp] at h
    have hr : rowsOf H (.row false L 0 pgs.length) = some pgs := by simp [rowsOf, h]
    show (match rowsOf H (.row false L 0 pgs.length) with
      | some rows => (mapL (mapL (retD 2 H)) rows).map (AV.list .loose)
      | none => none) = _
    rw [hr]
    show (mapL (mapL (retD 2 H)) pgs).map (AV.list .loose) = _
    rw [mapL_id (fun r hr => mapL_id fun x hx => retD_val (List.all_eq_true.1 (List.all_eq_true.1 hv r hr) x hx))]
    rfl
theorem ret_tup2 {H : Hp} {x y x' y' : AV} (h1 : ret1 H x = some x') (h2 : ret1 H y = some y') : retv H (.tup [x, y]) = some (.tup [x', y']) := by
  simp only [retv, mapL, h1, h2, Option.map_some]
theorem IsL_plist {pgs : List (List AV)} : IsL (plist pgs) := by
  unfold plist; split
  · exact .inl rfl
  · exact .inr ⟨_, _, rfl⟩
theorem lrows_plist {pgs : List (List AV)} : lrows (plist pgs) = pgs := by
  unfold plist; split
  · rename_i h; simp [lrows, h]
  · rfl
theorem i64_small {n : Int} (h1 : -9223372036854775808 ≤ n) (h2 : n < 9223372036854775808) : IntKind.i64.wrap n = n := IntWalk.i64_in n ⟨by omega, by omega⟩
theorem wrap_pred {n : Nat} (h1 : 0 < n) (h2 : n < 9223372036854775808) : IntKind.i64.wrap ((n : Int) - 1) = ((n - 1 : Nat) : Int) := by
  rw [i64_small (by omega) (by omega)]; omega
theorem int_eq {H : Hp} {a b : Int} (h : a = b) : some (AV.int .i64 a, H) = some (AV.int .i64 b, H) := by rw [h]

/-- A slot that bears a truth: two cases. -/
theorem w_split (i : Nat) {b : Bool} (hb : env[i]? = some (.bool b)) (ht : b = true → vops P G md ops r (env.set i (.bool true)) H K) (hf : b = false → vops P G md ops r (env.set i (.bool false)) H K) : vops P G md ops r env H K := by
  obtain ⟨hlt, he⟩ := List.getElem?_eq_some_iff.1 hb
  have e : env = env.set i (.bool b) := by
    rw [← he]; simp
  rw [e]
  cases b
  · exact hf rfl
  · exact ht rfl
theorem d_split (i : Nat) {b : Bool} (hb : env[i]? = some (.bool b)) (ht : b = true → vopsD P G md ops r (env.set i (.bool true)) H K) (hf : b = false → vopsD P G md ops r (env.set i (.bool false)) H K) : vopsD P G md ops r env H K := by
  obtain ⟨hlt, he⟩ := List.getElem?_eq_some_iff.1 hb
  have e : env = env.set i (.bool b) := by
    rw [← he]; simp
  rw [e]
  cases b
  · exact hf rfl
  · exact ht rfl

/-- No result's slot. -/
theorem w_op0N {op : Op} {ty : TypeId} {pos : String} {aft : Array Edge} {g : Option (Nat × Bool)} {v : AV} {H' H2 : Hp} (hg : wantedV g ops env = some true) (hx : vexec2 P md (ev G env) H ⟨none, op, ty, pos, aft, g⟩ = some (v, H')) (hH : H' = H2)
    (ho : ∀ k, (match vexec2 P md (ev G env) H ⟨none, op, ty, pos, aft, g⟩ with | some (r, H') => k r H' | none => False) → vop (XS P G) P md G env H ⟨none, op, ty, pos, aft, g⟩ k)
    (h : vops P G md ops r env H2 K) : vops P G md ops (⟨none, op, ty, pos, aft, g⟩ :: r) env H K := by subst hH; exact vo_op hg ho hx h
theorem w_skip0N {op : Op} {ty : TypeId} {pos : String} {aft : Array Edge} {g : Option (Nat × Bool)} (hg : wantedV g ops env = some false)
    (h : vops P G md ops r env H K) : vops P G md ops (⟨none, op, ty, pos, aft, g⟩ :: r) env H K := vo_skip hg h

/-- Slots and objects written out. -/
theorem w_opH {d : Tmp} {op : Op} {ty : TypeId} {pos : String} {aft : Array Edge} {g : Option (Nat × Bool)} {v : AV} {H' H2 : Hp} {env' : List AV} (hg : wantedV g ops env = some true) (hx : vexec2 P md (ev G env) H ⟨some d, op, ty, pos, aft, g⟩ = some (v, H')) (he : env.set d v = env') (hH : H' = H2)
    (ho : ∀ k, (match vexec2 P md (ev G env) H ⟨some d, op, ty, pos, aft, g⟩ with | some (r, H') => k r H' | none => False) → vop (XS P G) P md G env H ⟨some d, op, ty, pos, aft, g⟩ k)
    (h : vops P G md ops r env' H2 K) : vops P G md ops (⟨some d, op, ty, pos, aft, g⟩ :: r) env H K := by subst he; subst hH; exact vo_op hg ho hx h

/-- A call on lent values whose meaning is known. -/
theorem w_callI {d : Tmp} {ty : TypeId} {pos : String} {aft : Array Edge} {f : Operand} {args : Array Operand} {ts : Array TypeId} {gd : Option (Nat × Bool)} {g : Nat} {cs xs ys : List AV} {r' : AV} {env' : List AV} (hg : wantedV gd ops env = some true) (hf : ev G env f = some (.clo g cs)) (hx : evL (ev G env) args.toList = some xs) (he : enterOk P g = true)
    (hm : md ⟨some d, .call ⟨.value f, args, ts⟩, ty, pos, aft, gd⟩ = .iso) (hl : mapL (lend H) (xs ++ cs) = some ys) (hF : Fn P G g ys r') (hE : env.set d r' = env')
    (h : vops P G md ops r env' H K) : vops P G md ops (⟨some d, .call ⟨.value f, args, ts⟩, ty, pos, aft, gd⟩ :: r) env H K := by
  subst hE
  refine vo_call hg rfl hf hx he ?_
  rw [hm]
  exact call_iso hl hF h

/-! ### In a region whose order is drawn -/
theorem d_nil (h : K env H) : vopsD P G md ops [] env H K := h
theorem d_opH {d : Tmp} {op : Op} {ty : TypeId} {pos : String} {aft : Array Edge} {g : Option (Nat × Bool)} {v : AV} {H' H2 : Hp} {env' : List AV} (hg : wantedV g ops env = some true) (hx : vexec2 P md (ev G env) H ⟨some d, op, ty, pos, aft, g⟩ = some (v, H')) (hc : clsOp md ⟨some d, op, ty, pos, aft, g⟩ = 2 ∨ H' = H) (he : env.set d v = env') (hH : H' = H2)
    (ho : ∀ k, (match vexec2 P md (ev G env) H ⟨some d, op, ty, pos, aft, g⟩ with | some (r, H') => k r H' | none => False) → vop (XS P G) P md G env H ⟨some d, op, ty, pos, aft, g⟩ k)
    (h : vopsD P G md ops r env' H2 K) : vopsD P G md ops (⟨some d, op, ty, pos, aft, g⟩ :: r) env H K := by
  subst he
  subst hH
  simp only [vopsD, hg]
  by_cases h2 : clsOp md ⟨some d, op, ty, pos, aft, g⟩ = 2
  · rw [if_pos h2]
    refine ⟨v, H', ho _ ?_, h⟩
    rw [hx]
    exact ⟨rfl, rfl⟩
  · rw [if_neg h2]
    have e : H' = H := hc.resolve_left h2
    subst e
    refine ⟨v, ho _ ?_, h⟩
    rw [hx]
    exact ⟨rfl, rfl⟩
theorem d_op0 {op : Op} {ty : TypeId} {pos : String} {aft : Array Edge} {g : Option (Nat × Bool)} {v : AV} {H' H2 : Hp} (hg : wantedV g ops env = some true) (hx : vexec2 P md (ev G env) H ⟨none, op, ty, pos, aft, g⟩ = some (v, H')) (hc : clsOp md ⟨none, op, ty, pos, aft, g⟩ = 2 ∨ H' = H) (hH : H' = H2)
    (ho : ∀ k, (match vexec2 P md (ev G env) H ⟨none, op, ty, pos, aft, g⟩ with | some (r, H') => k r H' | none => False) → vop (XS P G) P md G env H ⟨none, op, ty, pos, aft, g⟩ k)
    (h : vopsD P G md ops r env H2 K) : vopsD P G md ops (⟨none, op, ty, pos, aft, g⟩ :: r) env H K := by
  subst hH
  simp only [vopsD, hg]
  by_cases h2 : clsOp md ⟨none, op, ty, pos, aft, g⟩ = 2
  · rw [if_pos h2]
    refine ⟨v, H', ho _ ?_, h⟩
    rw [hx]
    exact ⟨rfl, rfl⟩
  · rw [if_neg h2]
    have e : H' = H := hc.resolve_left h2
    subst e
    refine ⟨v, ho _ ?_, h⟩
    rw [hx]
    exact ⟨rfl, rfl⟩
theorem d_skipN {d : Tmp} {op : Op} {ty : TypeId} {pos : String} {aft : Array Edge} {g : Option (Nat × Bool)} {env' : List AV} (hg : wantedV g ops env = some false) (he : env.set d (.tup []) = env')
    (h : vopsD P G md ops r env' H K) : vopsD P G md ops (⟨some d, op, ty, pos, aft, g⟩ :: r) env H K := by
  subst he
  simp only [vopsD, hg]
  exact h
theorem d_skip0 {op : Op} {ty : TypeId} {pos : String} {aft : Array Edge} {g : Option (Nat × Bool)} (hg : wantedV g ops env = some false)
    (h : vopsD P G md ops r env H K) : vopsD P G md ops (⟨none, op, ty, pos, aft, g⟩ :: r) env H K := by
  simp only [vopsD, hg]
  exact h
theorem d_callI {d : Tmp} {ty : TypeId} {pos : String} {aft : Array Edge} {f : Operand} {args : Array Operand} {ts : Array TypeId} {gd : Option (Nat × Bool)} {g : Nat} {cs xs ys : List AV} {r' : AV} {env' : List AV} (hg : wantedV gd ops env = some true) (hf : ev G env f = some (.clo g cs)) (hx : evL (ev G env) args.toList = some xs) (he : enterOk P g = true)
    (hm : md ⟨some d, .call ⟨.value f, args, ts⟩, ty, pos, aft, gd⟩ = .iso) (hl : mapL (lend H) (xs ++ cs) = some ys) (hF : Fn P G g ys r') (hE : env.set d r' = env')
    (h : vopsD P G md ops r env' H K) : vopsD P G md ops (⟨some d, .call ⟨.value f, args, ts⟩, ty, pos, aft, gd⟩ :: r) env H K := by
  subst hE
  have hop : vop (XS P G) P md G env H ⟨some d, .call ⟨.value f, args, ts⟩, ty, pos, aft, gd⟩ fun v1 H1 => v1 = r' ∧ H1 = H := by
    simp only [vop, hf, hx, he, if_true]
    rw [hm]
    exact call_iso hl hF ⟨rfl, rfl⟩
  simp only [vopsD, hg]
  have hc : clsOp md ⟨some d, .call ⟨.value f, args, ts⟩, ty, pos, aft, gd⟩ ≠ 2 := by
    simp [clsOp, hm]
  rw [if_neg hc]
  exact ⟨r', hop, h⟩
theorem d_norm {l : List Oper} {env' : List AV} {H' : Hp} (he : env = env') (hH : H = H') (h : vopsD P G md ops l env' H' K) : vopsD P G md ops l env H K := by subst he; subst hH; exact h

theorem lend_of0 {x : AV} (h : lend0 H x = some x) : lend H x = some x := by
  cases x with
  | agg cs => cases h
  | clo f cs =>
    cases cs with
    | nil => rfl
    | cons a r => cases h
  | _ => exact h
theorem lends_of0 : ∀ {xs : List AV}, mapL (lend0 H) xs = some xs → mapL (lend H) xs = some xs
  | [], _ => rfl
  | x :: r, h => by
    unfold mapL at h
    split at h
    · rename_i y ys h1 h2
      cases h
      simp only [mapL, lend_of0 h1, lends_of0 h2]
    · cases h
theorem lend_clo {g : Nat} {caps : List AV} (h : mapL (lend0 H) caps = some caps) : lend H (.clo g caps) = some (.clo g caps) := by
  simp only [lend, h, Option.map_some]

/-! ### Slices that nobody writes, not known whether nil -/
theorem IsL.len {e t : TypeId} {x : AV} (hL : IsL x) (hu : P.underlying t = some (.slice e)) : vlen P H t x = some (.int .i64 (lrows x).length) := by
  unfold vlen
  rw [hu]
  rcases hL with rfl | ⟨t, rows, rfl⟩ <;> rfl
theorem IsL.at {t e : TypeId} {sz : Nat} {x : AV} {k : IntKind} {n : Int} {r0 : List AV} (hL : IsL x) (he : elemAt P t = some (none, e, sz)) (h0 : 0 ≤ n) (hr : (lrows x)[n.toNat]? = some r0) (hs : r0.length = sz) : ∃ b, vindexAddr P H t x (.int k n) = some (.iptr b r0) := by
  rcases hL with rfl | ⟨tg, rows, rfl⟩
  · simp [lrows] at hr
  · have hl := (List.getElem?_eq_some_iff.1 hr).1
    refine ⟨tg == .bor, ?_⟩
    unfold vindexAddr
    rw [he]
    simp only
    simp only [lrows] at hr hl
    rw [if_pos ⟨h0, by omega⟩, hr]
    simp only
    rw [if_pos hs]
theorem IsL.lend {x : AV} (hL : IsL x) : lend H x = some x := by
  rcases hL with rfl | ⟨tg, rows, rfl⟩
  · rfl
  · rfl
theorem IsL.lend0 {x : AV} (hL : IsL x) : lend0 H x = some x := by
  rcases hL with rfl | ⟨tg, rows, rfl⟩
  · rfl
  · rfl
theorem IsL.src {x : AV} (hL : IsL x) : srcRows H x = some (lrows x) := by
  rcases hL with rfl | ⟨tg, rows, rfl⟩
  · rfl
  · rfl

theorem x_len {d : Tmp} {ty : TypeId} {pos : String} {aft : Array Edge} {a : Operand} {t e : TypeId} {x : AV} {g : Option (Nat × Bool)} {env' : List AV} (hg : wantedV g ops env = some true) (hx : ev G env a = some x) (hL : IsL x) (hu : P.underlying t = some (.slice e)) (he : env.set d (.int .i64 (lrows x).length) = env')
    (h : vops P G md ops r env' H K) : vops P G md ops (⟨some d, .call ⟨.builtin .len, #[a], #[t]⟩, ty, pos, aft, g⟩ :: r) env H K := by
  refine w_opN (v := .int .i64 (lrows x).length) (H' := H) hg ?_ he (fun _ h => h) h
  have he : evL (ev G env) #[a].toList = some [x] := by simp [evL, hx]
  simp only [vexec2, vexec, he, vbuiltin]
  simp [IsL.len hL hu]
theorem x_index {d : Tmp} {ty : TypeId} {pos : String} {aft : Array Edge} {t : TypeId} {x ix : Operand} {s : AV} {k : IntKind} {n : Int} {e : TypeId} {sz : Nat} {r0 : List AV} {g : Option (Nat × Bool)} (hg : wantedV g ops env = some true) (hx : ev G env x = some s) (hL : IsL s) (hi : ev G env ix = some (.int k n))
    (he : elemAt P t = some (none, e, sz)) (h0 : 0 ≤ n) (hr : (lrows s)[n.toNat]? = some r0) (hs : r0.length = sz) (h : ∀ b, vops P G md ops r (env.set d (.iptr b r0)) H K) : vops P G md ops (⟨some d, .indexAddr t x ix, ty, pos, aft, g⟩ :: r) env H K := by
  obtain ⟨b, hb⟩ := IsL.at (H := H) (k := k) hL he h0 hr hs
  refine w_opN (v := .iptr b r0) (H' := H) hg ?_ rfl (fun _ h => h) (h b)
  simp only [vexec2, vexec, hx, hi, hb, Option.map_some]
theorem y_len {d : Tmp} {ty : TypeId} {pos : String} {aft : Array Edge} {a : Operand} {t e : TypeId} {x : AV} {g : Option (Nat × Bool)} {env' : List AV} (hg : wantedV g ops env = some true) (hx : ev G env a = some x) (hL : IsL x) (hu : P.underlying t = some (.slice e)) (he : env.set d (.int .i64 (lrows x).length) = env')
    (h : vopsD P G md ops r env' H K) : vopsD P G md ops (⟨some d, .call ⟨.builtin .len, #[a], #[t]⟩, ty, pos, aft, g⟩ :: r) env H K := by
  refine d_opH (v := .int .i64 (lrows x).length) (H' := H) hg ?_ (.inr rfl) he rfl (fun _ h => h) h
  have he : evL (ev G env) #[a].toList = some [x] := by simp [evL, hx]
  simp only [vexec2, vexec, he, vbuiltin]
  simp [IsL.len hL hu]
theorem y_index {d : Tmp} {ty : TypeId} {pos : String} {aft : Array Edge} {t : TypeId} {x ix : Operand} {s : AV} {k : IntKind} {n : Int} {e : TypeId} {sz : Nat} {r0 : List AV} {g : Option (Nat × Bool)} (hg : wantedV g ops env = some true) (hx : ev G env x = some s) (hL : IsL s) (hi : ev G env ix = some (.int k n))
    (he : elemAt P t = some (none, e, sz)) (h0 : 0 ≤ n) (hr : (lrows s)[n.toNat]? = some r0) (hs : r0.length = sz) (h : ∀ b, vopsD P G md ops r (env.set d (.iptr b r0)) H K) : vopsD P G md ops (⟨some d, .indexAddr t x ix, ty, pos, aft, g⟩ :: r) env H K := by
  obtain ⟨b, hb⟩ := IsL.at (H := H) (k := k) hL he h0 hr hs
  refine d_opH (v := .iptr b r0) (H' := H) hg ?_ (.inr rfl) rfl rfl (fun _ h => h) (h b)
  simp only [vexec2, vexec, hx, hi, hb, Option.map_some]
theorem d_end {K' : List AV → Hp → Prop} {env' : List AV} (he : env = env') (h : K' env' H) : vopsD P G md ops [] env H (thenQ K' Q .normal) := by subst he; exact h
theorem d_endB {id : Nat} {env' : List AV} (he : env = env') (h : Q .normal env' H) : vopsD P G md ops [] env H (blockQ id Q .normal) := by subst he; exact h
end
end Go.Vi
