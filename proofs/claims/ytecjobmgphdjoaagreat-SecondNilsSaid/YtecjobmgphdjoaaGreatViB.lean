/- Vi, part B: how the two sides move together: nothing, a new object, a store, a freeze. -/
import Derived.Test.YtecjobmgphdjoaaGreatViA
set_option autoImplicit false
namespace Go.Vi

/-- From (c, H) to (c', H'). -/
structure To (c : Cx) (H : Hp) (c' : Cx) (H' : Hp) : Prop where
  ext : Ext c H c'
  sim : Sim c' H'
  len : H.length ≤ H'.length
  liv : ∀ l, l < H.length → live H' l → live H l

theorem To.refl {c : Cx} {H : Hp} (s : Sim c H) : To c H c H := ⟨Ext.refl c H, s, Nat.le_refl _, fun _ _ h => h⟩

theorem Owned.back {c c' : Cx} {H H' : Hp} (s : Sim c H) (t : To c H c' H') {b : Nat} (hb : b < c.w.heap.size) (ho : Owned c' H' b) : Owned c H b :=
  owned_back t.ext (fun l h h' => t.liv l h' h) s.fresh hb ho

theorem To.trans {a b c : Cx} {H1 H2 H3 : Hp} (s : Sim a H1) (h : To a H1 b H2) (k : To b H2 c H3) : To a H1 c H3 := by
  refine ⟨⟨h.ext.mono.trans k.ext.mono, Nat.le_trans h.ext.size k.ext.size, fun x hx hn => ?_, fun x hx => ?_, fun x => (k.ext.beq x).trans (h.ext.beq x), fun l cl hl => ?_,
    k.ext.os.trans h.ext.os, k.ext.tape.trans h.ext.tape, k.ext.output.trans h.ext.output⟩, k.sim, Nat.le_trans h.len k.len, fun l hl hv => h.liv l hl (k.liv l (Nat.lt_of_lt_of_le hl h.len) hv)⟩
  · rw [k.ext.frame x (Nat.lt_of_lt_of_le hx h.ext.size) (fun ho => hn (Owned.back s h hx ho)), h.ext.frame x hx hn]
  · rcases k.ext.inew x hx with h1 | h1 | h1
    · exact h.ext.inew x h1
    · exact .inr (.inl (Nat.le_trans h.ext.size h1))
    · by_cases hlt : x < a.w.heap.size
      · exact .inr (.inr (Owned.back s h hlt h1))
      · exact .inr (.inl (by omega))
  · rcases k.ext.own l cl hl with h1 | h1 | h1
    · exact h.ext.own l cl h1
    · exact .inr (.inl (Nat.le_trans h.ext.size h1))
    · by_cases hlt : cl.blk < a.w.heap.size
      · exact .inr (.inr (Owned.back s h hlt h1))
      · exact .inr (.inl (by omega))

/-- An object that stays, its block's content and the rest being as they were. -/
theorem ObjAt.keep {c c' : Cx} {l : Nat} {o : VO} (m : Mono c c') (hI : ∀ cl, c.ρ l = some cl → o.live = true → (c'.I cl.blk → c.I cl.blk)) (hB : ∀ b, c'.B b → c.B b)
    (hh : ∀ cl, c.ρ l = some cl → o.live = true → c'.w.heap[cl.blk]? = c.w.heap[cl.blk]?) (h : ObjAt c l o) : ObjAt c' l o := by
  cases o with
  | arr T sz rows =>
    obtain ⟨cl, cells, h1, h2, h3, h4, h5, h6, h7⟩ := h
    exact ⟨cl, cells, m.ρ _ _ h1, h2, (hh cl h1 rfl).trans h3, h4, fun hi => h5 (hI cl h1 rfl hi), fun hb => h6 (hB _ hb), h7.mono m⟩
  | frz sz rows =>
    obtain ⟨h0, cl, cells, T, fr, h1, h2, h3, h4, h5, h6⟩ := h
    exact ⟨h0, cl, cells, T, fr, m.ρ _ _ h1, h2, (m.heap _ (.inl h5)).trans h3, h4, m.I _ h5, h6.mono m⟩
  | one T cs =>
    obtain ⟨cl, cells, h1, h2, h3, h4, h5, h6, h7, h8, h9⟩ := h
    exact ⟨cl, cells, m.ρ _ _ h1, h2, (hh cl h1 rfl).trans h3, h4, fun hi => h5 (hI cl h1 rfl hi), fun hb => h6 (hB _ hb), h7.mono m, h8, h9⟩
  | map es =>
    obtain ⟨cl, ms, h1, h2, h3, h4, h5, h6⟩ := h
    exact ⟨cl, ms, m.ρ _ _ h1, (hh cl h1 rfl).trans h2, fun hi => h3 (hI cl h1 rfl hi), fun hb => h4 (hB _ hb), h5, fun j e he => let ⟨V, a, b⟩ := h6 j e he; ⟨V, a, b.mono m⟩⟩
  | iter mm n seen =>
    obtain ⟨cl, cm, h1, h2, h3, h4, h5, h6⟩ := h
    exact ⟨cl, cm, m.ρ _ _ h1, h2, m.ρ _ _ h3, (hh cl h1 rfl).trans h4, fun hi => h5 (hI cl h1 rfl hi), fun hb => h6 (hB _ hb)⟩
  | dead => trivial

theorem live_of {H : Hp} {l : Nat} {o : VO} (h : H[l]? = some o) (ho : o.live = true) : live H l := ⟨o, h, ho⟩

theorem ObjAt.some {c : Cx} {l : Nat} {o : VO} (h : ObjAt c l o) (hl : o.live = true) : ∃ cl, c.ρ l = .some cl ∧ ¬ c.I cl.blk ∧ ¬ c.B cl.blk ∧ ∃ ob, c.w.heap[cl.blk]? = .some ob := by
  cases o with
  | arr T sz rows => obtain ⟨cl, cells, h1, h2, h3, h4, h5, h6, h7⟩ := h; exact ⟨cl, h1, h5, h6, _, h3⟩
  | one T cs => obtain ⟨cl, cells, h1, h2, h3, h4, h5, h6, h7⟩ := h; exact ⟨cl, h1, h5, h6, _, h3⟩
  | frz sz rows => cases hl
  | map es => obtain ⟨cl, ms, h1, h2, h3, h4, h5, h6⟩ := h; exact ⟨cl, h1, h3, h4, _, h2⟩
  | iter m n seen => obtain ⟨cl, cm, h1, h2, h3, h4, h5, h6⟩ := h; exact ⟨cl, h1, h5, h6, _, h4⟩
  | dead => cases hl

theorem Sim.lt {c : Cx} {H : Hp} (s : Sim c H) {l : Nat} {cl : CL} (hl : live H l) (hr : c.ρ l = some cl) : cl.blk < c.w.heap.size := by
  obtain ⟨o, ho, hv⟩ := hl
  obtain ⟨cl', h1, _, _, ob, h2⟩ := (s.obj l o ho).some hv
  rw [hr] at h1
  cases h1
  exact (Array.getElem?_eq_some_iff.1 h2).1

/-- The world has moved where no block stands. -/
theorem To.world {c : Cx} {H : Hp} (s : Sim c H) {w' : World} (hh : w'.heap = c.w.heap) (ho : w'.os = c.w.os) (ht : w'.tape = c.w.tape) (hu : w'.output = c.w.output) :
    To c H { c with w := w' } H := by
  have m : Mono c { c with w := w' } := ⟨fun _ h => h, fun _ h => h, fun _ _ h => h, fun b _ => by rw [hh]⟩
  refine ⟨⟨m, by simp [hh], fun b _ _ => by simp [hh], fun _ h => .inl h, fun _ => Iff.rfl, fun _ _ h => .inl h, ho, ht, hu⟩, ⟨fun b hb => by simp only [hh]; exact s.bound b hb, fun b hb => by simp only [hh]; exact s.boundB b hb, fun l o h => ?_, s.inj, s.fresh⟩, Nat.le_refl _, fun _ _ h => h⟩
  exact (s.obj l o h).keep m (fun _ _ _ h => h) (fun _ h => h) (fun cl _ _ => by simp [hh])

def updρ (ρ : Nat → Option CL) (l : Nat) (cl : CL) : Nat → Option CL := fun l' => if l' = l then some cl else ρ l'

theorem heap_push {w : World} {o : Obj} {b : Nat} (h : b < w.heap.size) : (w.heap.push o)[b]? = w.heap[b]? := by
  rw [Array.getElem?_push, if_neg (by omega)]

/-- A new object, in a block of its own. -/
theorem To.new {c : Cx} {H : Hp} (s : Sim c H) (o : VO) (ob : Obj) (cl : CL) (hb : cl.blk = c.w.heap.size)
    (ho : ∀ c' : Cx, Mono c c' → c'.ρ H.length = some cl → c'.w.heap[cl.blk]? = some ob → ¬ c'.I cl.blk → ¬ c'.B cl.blk → ObjAt c' H.length o) :
    To c H { c with w := c.w.alloc ob, ρ := updρ c.ρ H.length cl } (H ++ [o]) := by
  have hI : ¬ c.I cl.blk := fun h => by have := s.bound _ h; omega
  have hB : ¬ c.B cl.blk := fun h => by have := s.boundB _ h; omega
  have hρ : ∀ l, l < H.length → updρ c.ρ H.length cl l = c.ρ l := fun l h => by simp [updρ]; omega
  have m : Mono c { c with w := c.w.alloc ob, ρ := updρ c.ρ H.length cl } := by
    refine ⟨fun _ h => h, fun _ h => h, fun l cl' h => ?_, fun b h => ?_⟩
    · have : l ≠ H.length := fun e => by rw [e, s.fresh _ (Nat.le_refl _)] at h; cases h
      simp [updρ, this, h]
    · have hlt : b < c.w.heap.size := h.elim (s.bound b) (s.boundB b)
      exact heap_push hlt
  have hlast : (c.w.alloc ob).heap[cl.blk]? = some ob := by
    show (c.w.heap.push ob)[cl.blk]? = _
    rw [hb]
    simp
  have hsize : (c.w.alloc ob).heap.size = c.w.heap.size + 1 := by
    show (c.w.heap.push ob).size = _
    simp
  have lv : ∀ l, l < H.length → live (H ++ [o]) l → live H l := fun l hl ⟨o', h1, h2⟩ => ⟨o', by rwa [List.getElem?_append_left hl] at h1, h2⟩
  refine ⟨⟨m, by simp only [hsize]; omega, fun b hlt _ => heap_push hlt, fun _ h => .inl h, fun _ => Iff.rfl, fun l cl' h => ?_, rfl, rfl, rfl⟩, ⟨fun b h => ?_, fun b h => ?_, fun l o' h => ?_, fun l l' cl1 cl2 h1 h2 h3 h4 h5 => ?_, fun l h => ?_⟩, by simp, lv⟩
  · by_cases e : l = H.length
    · subst e
      simp [updρ] at h
      subst h
      exact .inr (.inl (by omega))
    · simp [updρ, e] at h
      exact .inl h
  · have := s.bound b h; simp only [hsize]; omega
  · have := s.boundB b h; simp only [hsize]; omega
  · by_cases hl : l < H.length
    · rw [List.getElem?_append_left hl] at h
      have h0 := s.obj l o' h
      refine h0.keep m (fun _ _ _ h => h) (fun _ h => h) (fun cl' hr hv => heap_push (s.lt (live_of h hv) hr))
    · have e : l = H.length := by
        have := (List.getElem?_eq_some_iff.1 h).1
        simp at this
        omega
      subst e
      simp at h
      subst h
      exact ho _ m (by simp [updρ]) hlast hI hB
  · have old : ∀ l cl', l < H.length → live (H ++ [o]) l → updρ c.ρ H.length cl l = some cl' → live H l ∧ c.ρ l = some cl' ∧ cl'.blk < c.w.heap.size := fun l cl' hl hv hr => by
      rw [hρ l hl] at hr
      exact ⟨lv l hl hv, hr, s.lt (lv l hl hv) hr⟩
    have new : ∀ l cl', ¬ l < H.length → live (H ++ [o]) l → updρ c.ρ H.length cl l = some cl' → l = H.length ∧ cl' = cl := fun l cl' hl ⟨o', hv, _⟩ hr => by
      have e : l = H.length := by
        have := (List.getElem?_eq_some_iff.1 hv).1
        simp at this
        omega
      subst e
      simp [updρ] at hr
      exact ⟨rfl, hr.symm⟩
    by_cases hl : l < H.length <;> by_cases hl' : l' < H.length
    · obtain ⟨a1, a2, _⟩ := old l cl1 hl h1 h3
      obtain ⟨b1, b2, _⟩ := old l' cl2 hl' h2 h4
      exact s.inj l l' cl1 cl2 a1 b1 a2 b2 h5
    · obtain ⟨_, _, a3⟩ := old l cl1 hl h1 h3
      obtain ⟨_, rfl⟩ := new l' cl2 hl' h2 h4
      omega
    · obtain ⟨_, _, a3⟩ := old l' cl2 hl' h2 h4
      obtain ⟨_, rfl⟩ := new l cl1 hl h1 h3
      omega
    · rw [(new l cl1 hl h1 h3).1, (new l' cl2 hl' h2 h4).1]
  · simp at h
    have e : l ≠ H.length := by omega
    simp [updρ, e]
    exact s.fresh l (by omega)

/-- A block that an object owns is written. -/
theorem To.write {c : Cx} {H : Hp} (s : Sim c H) {l : Nat} {cl : CL} (hl : live H l) (hr : c.ρ l = some cl) (o' : VO) {w' : World} (hsz : w'.heap.size = c.w.heap.size)
    (hh : ∀ b, b ≠ cl.blk → w'.heap[b]? = c.w.heap[b]?) (h1 : w'.os = c.w.os) (h2 : w'.tape = c.w.tape) (h3 : w'.output = c.w.output)
    (ho : Mono c { c with w := w' } → ObjAt { c with w := w' } l o') : To c H { c with w := w' } (H.set l o') := by
  obtain ⟨o, hlo, hv⟩ := hl
  obtain ⟨cl', e1, hI, hB, _⟩ := (s.obj l o hlo).some hv
  rw [hr] at e1
  cases e1
  have hlen : l < H.length := (List.getElem?_eq_some_iff.1 hlo).1
  have m : Mono c { c with w := w' } := ⟨fun _ h => h, fun _ h => h, fun _ _ h => h, fun b h => hh b (fun e => by subst e; exact h.elim hI hB)⟩
  have lv : ∀ k, live (H.set l o') k → live H k := fun k ⟨o2, h, hv2⟩ => by
    by_cases e : k = l
    · subst e
      exact ⟨o, hlo, hv⟩
    · rw [List.getElem?_set_ne (Ne.symm e)] at h
      exact ⟨o2, h, hv2⟩
  refine ⟨⟨m, by simp [hsz], fun b hb hn => hh b (fun e => hn ⟨l, cl, ⟨o, hlo, hv⟩, hr, e.symm⟩), fun _ h => .inl h, fun _ => Iff.rfl, fun _ _ h => .inl h, h1, h2, h3⟩, ⟨fun b hb => ?_, fun b hb => ?_, fun k o2 h => ?_, fun a b c1 c2 ha hb => s.inj a b c1 c2 (lv a ha) (lv b hb), fun k hk => s.fresh k (by simpa using hk)⟩, by simp, fun k _ h => lv k h⟩
  · simp only [hsz]; exact s.bound b hb
  · simp only [hsz]; exact s.boundB b hb
  · by_cases e : k = l
    · subst e
      rw [List.getElem?_set_self hlen] at h
      cases h
      exact ho m
    · rw [List.getElem?_set_ne (Ne.symm e)] at h
      exact (s.obj k o2 h).keep m (fun _ _ _ h => h) (fun _ h => h) (fun cl2 hr2 hv2 => hh _ (fun e2 => e (s.inj k l cl2 cl (live_of h hv2) ⟨o, hlo, hv⟩ hr2 hr e2)))

/-- An object that is written no more. -/
theorem To.freeze {c : Cx} {H : Hp} (s : Sim c H) {T : TypeId} {l sz : Nat} {rows : List (List AV)} (hl : H[l]? = some (.arr T sz rows)) (hv : allVal rows = true) :
    ∃ cl, c.ρ l = some cl ∧ To c H { c with I := fun b => c.I b ∨ b = cl.blk } (H.set l (.frz sz rows)) := by
  obtain ⟨cl, cells, e1, e2, e3, e4, e5, e6, e7⟩ := s.obj l _ hl
  refine ⟨cl, e1, ?_⟩
  have hlen : l < H.length := (List.getElem?_eq_some_iff.1 hl).1
  have m : Mono c { c with I := fun b => c.I b ∨ b = cl.blk } := ⟨fun _ h => .inl h, fun _ h => h, fun _ _ h => h, fun _ _ => rfl⟩
  have lv : ∀ k, live (H.set l (.frz sz rows)) k → k ≠ l ∧ live H k := fun k ⟨o2, h, hv2⟩ => by
    by_cases e : k = l
    · subst e
      rw [List.getElem?_set_self hlen] at h
      cases h
      cases hv2
    · rw [List.getElem?_set_ne (Ne.symm e)] at h
      exact ⟨e, o2, h, hv2⟩
  have hlt : cl.blk < c.w.heap.size := (Array.getElem?_eq_some_iff.1 e3).1
  refine ⟨⟨m, Nat.le_refl _, fun b hb hn => rfl, fun b h => h.elim .inl (fun e => .inr (.inr ⟨l, cl, ⟨_, hl, rfl⟩, e1, e.symm⟩)), fun _ => Iff.rfl, fun _ _ h => .inl h, rfl, rfl, rfl⟩, ⟨fun b hb => ?_, s.boundB, fun k o2 h => ?_, fun a b c1 c2 ha hb => s.inj a b c1 c2 (lv a ha).2 (lv b hb).2, fun k hk => s.fresh k (by simpa using hk)⟩, by simp, fun k _ h => (lv k h).2⟩
  · rcases hb with hb | rfl
    · exact s.bound b hb
    · exact hlt
  · by_cases e : k = l
    · subst e
      rw [List.getElem?_set_self hlen] at h
      cases h
      exact ⟨hv, cl, cells, T, (0, 0), e1, e2, e3, e4, .inr rfl, e7.mono m⟩
    · rw [List.getElem?_set_ne (Ne.symm e)] at h
      refine (s.obj k o2 h).keep m (fun cl2 hr2 hv2 hi => ?_) (fun _ h => h) (fun _ _ _ => rfl)
      rcases hi with hi | hi
      · exact hi
      · exact absurd (s.inj k l cl2 cl (live_of h hv2) ⟨_, hl, rfl⟩ hr2 e1 hi) e
end Go.Vi
