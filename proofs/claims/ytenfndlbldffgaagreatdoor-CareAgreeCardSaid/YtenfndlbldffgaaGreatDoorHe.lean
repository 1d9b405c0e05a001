/- Part of the proofs of the tied cards of Care: the texts CzT CsP CsA CsC CsS CsD CsE CsU CsO CsF CsKl CsK CsG CsV CsW. Conditions: none of its own. -/
import Derived.Test.YtenfndlbldffgaaGreatDoorHa
import Derived.Lib.Strings
import Derived.Test.YtenfndlbldffgaaGreatDoorHd
import Derived.Test.YtenfndlbldffgaaGreatDoorProg
import Derived.Shelf.SlIterI.Sorted
import Derived.Shelf.SlIterI.Nil
import Derived.Shelf.SortM.Plain
import Derived.Shelf.SortM.SortNone
import Derived.Ground.GgzProg
import Derived.Ground.SlgmProg
set_option autoImplicit false
set_option linter.unusedVariables false
set_option linter.unusedSimpArgs false
namespace Go.Vi
open Go Go.Vi
def bl (s : ByteArray) : List UInt8 := s.data.toList
def bs (l : List UInt8) : ByteArray := ⟨l.toArray⟩
theorem bs_bl (s : ByteArray) : bs (bl s) = s := by
 obtain ⟨d⟩ := s
 show (⟨d.toList.toArray⟩ : ByteArray) = ⟨d⟩
 rw [Array.toArray_toList]
theorem bl_inj {s t : ByteArray} (h : bl s = bl t) : s = t := by rw [← bs_bl s, h, bs_bl]
theorem seq_bl (s t : ByteArray) : seq s t = (bl s == bl t) := by
 unfold seq bl
 rw [ByteArray.toList_eq, ByteArray.toList_eq]
theorem seq_eq {s t : ByteArray} : seq s t = true ↔ s = t := by
 rw [seq_bl]
 constructor
 · intro h; exact bl_inj (eq_of_beq h)
 rintro rfl; simp
def hd (n : Nat) : UInt8 := UInt8.ofNat (if n < 10 then 48 + n else 87 + n)
end Go.Vi
namespace Go.Vi
def Byt (b : AV) : Prop := IsL b ∧ (lrows b).length < 9223372036854775808 ∧ ∀ q ∈ lrows b, ∃ v, q = [.int .u8 v]
structure Ro where
 unit : Int
 next : Int
 ready : ByteArray
def Ro.row (u : Ro) : List AV := [.int .i64 u.unit, .int .i64 u.next, .str u.ready]
structure Rc where
 kind : Int
 unit : Int
 page : Int
 pos : Int
 bef : AV
 aft : AV
 back : Int
 next : Int
 text : ByteArray
 opn : AV
 opens : List Ro
def Rc.row (r : Rc) : List AV := [.int .i64 r.kind, .int .i64 r.unit, .int .i64 r.page, .int .i64 r.pos, r.bef, r.aft, .int .i64 r.back, .int .i64 r.next, .str r.text, r.opn]
structure Rc.Ok (r : Rc) : Prop where
 bef : Byt r.bef
 aft : Byt r.aft
 opn : IsL r.opn
 rows : lrows r.opn = r.opens.map Ro.row
 vb : r.bef.isVal = true
 va : r.aft.isVal = true
 vo : r.opn.isVal = true
 len : r.opens.length < 9223372036854775808
 txt : r.text.size < 9223372036854775808
 rdy : ∀ u ∈ r.opens, u.ready.size < 9223372036854775808
def Rc.nb (r : Rc) : Nat := (lrows r.bef).length
def Rc.na (r : Rc) : Nat := (lrows r.aft).length
def within (lo n hi : Int) : Bool := decide (lo ≤ n) && decide (n ≤ hi)
structure Form where
 place : Bool
 before : Bool
 back : Bool
 text : Bool
 units : Bool
def Form.av (f : Form) : AV := .agg [.bool f.place, .bool f.before, .bool f.back, .bool f.text, .bool f.units]
def formOf (k : Int) : Form × Bool :=
 if k = 1 then (⟨true, true, false, false, false⟩, true) else if k = 2 then (⟨true, false, true, false, false⟩, true) else if k = 3 ∨ k = 4 then (⟨false, false, false, false, false⟩, true)
 else if k = 5 ∨ k = 7 then (⟨false, false, false, true, false⟩, true) else if k = 6 then (⟨false, false, false, false, true⟩, true) else (⟨false, false, false, false, false⟩, false)
def placeOk (page pos n : Int) : Bool := within 0 page 119 && within 0 pos 127 && within 1 n (128 - pos)
def openBad (l : List Ro) (i : Nat) : Bool := match l[i]? with
 | some u => !within 0 u.unit 1000000 || !within 0 u.next 1000000 || decide ((u.ready.size : Int) > 30) || (decide ((i : Int) > 0) && (match l[i - 1]? with | some v => decide (u.unit ≤ v.unit) | none => false))
 | none => false
def areOpen (l : List Ro) : Bool := !(List.range l.length).any (openBad l) && decide ((l.length : Int) ≤ 8)
def bad1 (f : Form) (r : Rc) : Bool := (f.place && !placeOk r.page r.pos r.na) || (!f.place && ((r.page != 0) || (r.pos != 0) || decide ((r.na : Int) > 0)))
def bad2 (f : Form) (r : Rc) : Bool := (f.before && ((r.nb : Int) != r.na)) || (!f.before && decide ((r.nb : Int) > 0))
def bad3 (f : Form) (r : Rc) : Bool := (f.back && (!within 0 r.back 1000000 || !within 0 r.next 1000000)) || (!f.back && ((r.back != 0) || (r.next != 0)))
def bad4 (f : Form) (r : Rc) : Bool := (f.units && (!areOpen r.opens || (r.unit != 0))) || (!f.units && decide ((r.opens.length : Int) > 0))
def textOk (r : Rc) : Bool := if (r.kind == 5) = true then within 1 r.text.size 30 else if (r.kind == 7) = true then decide ((r.text.size : Int) ≤ 200) else seq r.text ⟨#[]⟩
def validP (r : Rc) : Bool :=
 !(!(formOf r.kind).2 || !within 0 r.unit 1000000) && !bad1 (formOf r.kind).1 r && !bad2 (formOf r.kind).1 r && !bad3 (formOf r.kind).1 r && !bad4 (formOf r.kind).1 r && textOk r
def isNum (n : Int) : Bool := decide (n ≥ 0) && decide (n ≤ 1000000)
def isPlaceR (page pos n : Int) : Bool := decide (page ≥ 0) && decide (page < 120) && decide (pos ≥ 0) && decide (pos < 128) && decide (n ≥ 1) && decide (n ≤ 128 - pos)
def markBad (l : List Ro) (i : Nat) : Bool := match l[i]? with
 | some u => !isNum u.unit || !isNum u.next || decide ((u.ready.size : Int) > 30) || (decide ((i : Int) > 0) && (match l[i - 1]? with | some v => decide (u.unit ≤ v.unit) | none => false))
 | none => false
def isMark (l : List Ro) : Bool := !(List.range l.length).any (markBad l) && decide ((l.length : Int) ≤ 8)
def fieldsR (r : Rc) : Bool := decide ((r.nb : Int) > 0) || decide ((r.na : Int) > 0) || (r.page != 0) || (r.pos != 0)
def linksR (r : Rc) : Bool := (r.back != 0) || (r.next != 0)
def kindR (r : Rc) : Bool :=
 if (r.kind == 1) = true then isPlaceR r.page r.pos r.na && ((r.nb : Int) == r.na) && !linksR r && seq r.text ⟨#[]⟩ && ((r.opens.length : Int) == 0)
 else if (r.kind == 2) = true then isPlaceR r.page r.pos r.na && ((r.nb : Int) == 0) && isNum r.back && isNum r.next && seq r.text ⟨#[]⟩ && ((r.opens.length : Int) == 0)
 else if (r.kind == 3) = true ∨ (r.kind == 4) = true then !fieldsR r && !linksR r && seq r.text ⟨#[]⟩ && ((r.opens.length : Int) == 0)
 else if (r.kind == 5) = true then !fieldsR r && !linksR r && decide ((r.text.size : Int) ≥ 1) && decide ((r.text.size : Int) ≤ 30) && ((r.opens.length : Int) == 0)
 else if (r.kind == 6) = true then !fieldsR r && !linksR r && seq r.text ⟨#[]⟩ && (r.unit == 0) && isMark r.opens
 else if (r.kind == 7) = true then !fieldsR r && !linksR r && decide ((r.text.size : Int) ≤ 200) && ((r.opens.length : Int) == 0)
 else false
def validR (r : Rc) : Bool := isNum r.unit && kindR r
theorem within_num {n : Int} : within 0 n 1000000 = isNum n := by simp [within, isNum]
theorem place_eq {page pos n : Int} : placeOk page pos n = isPlaceR page pos n := by
 rw [Bool.eq_iff_iff]; simp [placeOk, isPlaceR, within]; omega
theorem open_eq {l : List Ro} : areOpen l = isMark l := by
 have : openBad l = markBad l := by
  funext i
  simp only [openBad, markBad, within_num]
 rw [areOpen, isMark, this]
theorem valid_eq (r : Rc) : validP r = validR r := by
 unfold validP validR kindR formOf bad1 bad2 bad3 bad4 textOk
 rw [place_eq, open_eq]
 simp only [within_num, fieldsR, linksR]
 generalize isPlaceR r.page r.pos r.na = A
 generalize isMark r.opens = B
 generalize isNum r.unit = C
 generalize isNum r.back = D
 generalize isNum r.next = E
 have pos : ∀ n : Nat, decide ((n : Int) > 0) = !((n : Int) == 0) := fun n => by rw [Bool.eq_iff_iff]; simp; omega
 have e2 := pos r.nb
 have e3 := pos r.opens.length
 have e4 : within 1 r.text.size 30 = (decide ((r.text.size : Int) ≥ 1) && decide ((r.text.size : Int) ≤ 30)) := by simp [within]
 simp only [bne, e2, e3, e4]
 generalize (r.page == 0) = a1
 generalize (r.pos == 0) = a2
 generalize (r.back == 0) = a3
 generalize (r.next == 0) = a4
 generalize (r.unit == 0) = a5
 generalize ((r.nb : Int) == r.na) = b1
 generalize ((r.nb : Int) == 0) = b2
 generalize decide ((r.na : Int) > 0) = b3
 generalize ((r.opens.length : Int) == 0) = b4
 generalize decide ((r.text.size : Int) ≥ 1) = b5
 generalize decide ((r.text.size : Int) ≤ 30) = b6
 generalize decide ((r.text.size : Int) ≤ 200) = b7
 generalize seq r.text ⟨#[]⟩ = b8
 simp only [beq_iff_eq]
 by_cases h1 : r.kind = 1
 · simp [h1]; cases A <;> cases b1 <;> cases a3 <;> cases a4 <;> cases b4 <;> cases b8 <;> cases C <;> rfl
 by_cases h2 : r.kind = 2
 · simp [h2]; cases A <;> cases b2 <;> cases D <;> cases E <;> cases b4 <;> cases b8 <;> cases C <;> rfl
 by_cases h3 : r.kind = 3 ∨ r.kind = 4
 · have h5 : ¬ r.kind = 5 := by omega
   have h7 : ¬ r.kind = 7 := by omega
   simp [h1, h2, h3, h5, h7]; cases a1 <;> cases a2 <;> cases b3 <;> cases b2 <;> cases a3 <;> cases a4 <;> cases b4 <;> cases b8 <;> cases C <;> rfl
 by_cases h5 : r.kind = 5
 · simp [h5]; cases a1 <;> cases a2 <;> cases b3 <;> cases b2 <;> cases a3 <;> cases a4 <;> cases b4 <;> cases b5 <;> cases b6 <;> cases C <;> rfl
 by_cases h6 : r.kind = 6
 · simp [h6]; cases a1 <;> cases a2 <;> cases b3 <;> cases b2 <;> cases a3 <;> cases a4 <;> cases B <;> cases a5 <;> cases b8 <;> cases C <;> rfl
 by_cases h7 : r.kind = 7
 · simp [h7]; cases a1 <;> cases a2 <;> cases b3 <;> cases b2 <;> cases a3 <;> cases a4 <;> cases b4 <;> cases b7 <;> cases C <;> rfl
 simp [h1, h2, h3, h5, h6, h7]
def byteStr (rows : List (List AV)) : ByteArray := strOfNums ((numsOf rows).getD [])
def eqB (a b : List (List AV)) : Bool := seq (byteStr a) (byteStr b)
theorem nums_some : ∀ {rows : List (List AV)}, (∀ q ∈ rows, ∃ v, q = [.int .u8 v]) → numsOf rows = some ((numsOf rows).getD [])
 | [], _ => rfl
 | q :: r, h => by
   obtain ⟨v, rfl⟩ := h q (by simp)
   have ih := nums_some (rows := r) (fun q hq => h q (by simp [hq]))
   rw [numsOf, ih]
   rfl
theorem conv_byt {P : Program} {H : Hp} {src dst e : TypeId} {x : AV} {rows : List (List AV)} (h1 : P.underlying src = some (.slice e)) (h2 : P.underlying dst = some .string) (h3 : P.underlying e = some (.int .u8)) (hr : rowsOf H x = some rows) (hb : ∀ q ∈ rows, ∃ v, q = [.int .u8 v]) :
 (orX (vconv P H src dst x) (vconvX P H src dst x)).map (·, H) = some (.str (byteStr rows), H) := by
 have : vconv P H src dst x = some (.str (byteStr rows)) := by
  simp only [vconv, h1, h2, h3, hr]
  rw [nums_some hb]
  rfl
 rw [this]; rfl
theorem IsL.rowsOf {H : Hp} {x : AV} (h : IsL x) : rowsOf H x = some (lrows x) := by
 rcases h with rfl | ⟨t, r, rfl⟩ <;> rfl
def Ro.same (a b : Ro) : Bool := a.unit == b.unit && (a.next == b.next && (seq a.ready b.ready && true))
def diffAt (l m : List Ro) (i : Nat) : Bool := match l[i]?, m[i]? with
 | some a, some b => !Ro.same a b
 | _, _ => false
def sameOpens (l m : List Ro) : Bool := !((l.length : Int) != m.length) && !(List.range l.length).any (diffAt l m)
def longOpen (l : List Ro) (i : Nat) : Bool := match l[i]? with
 | some u => decide ((u.ready.size : Int) > 400)
 | none => false
def largeRc (r : Rc) : Bool := (List.range r.opens.length).any (longOpen r.opens) || (decide ((r.nb : Int) > 400) || decide ((r.na : Int) > 400) || decide ((r.text.size : Int) > 400) || decide ((r.opens.length : Int) > 20))
def largeAt (l : List Rc) (i : Nat) : Bool := match l[i]? with
 | some r => largeRc r
 | none => false
def large (l : List Rc) : Bool := (List.range l.length).any (largeAt l) || decide ((l.length : Int) > 40)
def laysB (r : Rc) : Bool := r.kind == 1 || r.kind == 2
def meetsB (a b : Rc) : Bool := a.page == b.page && decide (a.pos < b.pos + b.na) && decide (b.pos < a.pos + a.na)
structure Recs (x : AV) (rs : List Rc) : Prop where
 isL : IsL x
 val : x.isVal = true
 rows : lrows x = rs.map Rc.row
 ok : ∀ r ∈ rs, r.Ok
 len : rs.length < 9223372036854775808
theorem Recs.at {x : AV} {rs : List Rc} (h : Recs x rs) {i : Nat} {r : Rc} (hr : rs[i]? = some r) : (lrows x)[i]? = some r.row := by
 rw [h.rows, List.getElem?_map, hr]; rfl
end Go.Vi
set_option maxRecDepth 100000
namespace Go.Vi
open Go Go.Vi Go.Proofs
attribute [local irreducible] vops vopsD vc
theorem el91 : elemAt Tryz.prog 91 = some (none, 140, 3) := by kernel_rfl
theorem open_at {l : List Ro} {x : AV} {i : Nat} {u : Ro} (h : lrows x = l.map Ro.row) (hu : l[i]? = some u) : (lrows x)[i]? = some [.int .i64 u.unit, .int .i64 u.next, .str u.ready] := by
 rw [h, List.getElem?_map, hu]; rfl
theorem none_upto {p : Nat → Bool} {i : Nat} (hn : ∀ j, j < i → p j = false) (h : p i = false) : ∀ j, j < i + 1 → p j = false := by
 intro j hj
 by_cases e : j = i
 · subst e; exact h
 exact hn j (by omega)
theorem range_any_no {p : Nat → Bool} {n i : Nat} (hn : ∀ j, j < i → p j = false) (hi : n ≤ i) : (List.range n).any p = false := by
 rw [List.any_eq_false]
 intro j hj
 simp [hn j (by have := List.mem_range.1 hj; omega)]
theorem range_any_yes {p : Nat → Bool} {n i : Nat} (h : p i = true) (hi : i < n) : (List.range n).any p = true :=
 List.any_eq_true.2 ⟨i, List.mem_range.2 hi, h⟩
set_option maxHeartbeats 4000000 in
theorem sWithin (G : Glob) (lo n hi : Int) : Vi.Fn Tryz.prog G 167 [.int .i64 lo, .int .i64 n, .int .i64 hi] (.bool (within lo n hi)) := by
 refine fn_body (fun _ => .iso) Tryz.func167 rfl ?_
 refine vc_norm (env' := [_, _, _, _, _, _, _, _, _, _, _, _, _, _, _]) (H' := []) rfl rfl ?_
 refine vs (wr ?_)
 refine wN rfl rfl rfl (v15 rfl ?_)
 refine we rfl (vs (wr ?_))
 iterate 4 refine wN rfl rfl rfl (v15 rfl ?_)
 apply w_and 4 10 (fun b => (rnone 10 ++ (rundef 4 ++ ([some (.bool b)])))) rfl
 ·
  intro hg10 hY10
  refine v15 rfl ?_
  iterate 3 refine wN (wanted_t 10 (by kernel_rfl) rfl) rfl rfl (v15 rfl ?_)
  refine wN rfl rfl rfl (v15 rfl ?_)
  refine hY10 _ ?_
  repeat' first | exact trivial | refine ⟨.inr rfl, ?_⟩ | refine ⟨.inl rfl, ?_⟩ | fail
 ·
  intro hg10 hY10
  refine v15 rfl ?_
  iterate 3 refine wS (wanted_f 10 (by kernel_rfl) rfl) (v15 rfl ?_)
  refine wN rfl rfl rfl (v15 rfl ?_)
  refine hY10 _ ?_
  repeat' first | exact trivial | refine ⟨.inr rfl, ?_⟩ | refine ⟨.inl rfl, ?_⟩ | fail
 refine v15 rfl ?_
 refine wN rfl rfl rfl (v15 rfl ?_)
 refine we rfl (vc_ret (r_fn rfl ?_))
 rfl
set_option maxHeartbeats 4000000 in
theorem sIsPlace (G : Glob) (r : Rc) (hr : r.Ok) : Vi.Fn Tryz.prog G 168 [.agg r.row] (.bool (placeOk r.page r.pos r.na)) := by
 have hLb := hr.bef.1
 have hLa := hr.aft.1
 have hLo := hr.opn
 have hbb := hr.bef.2.1
 have hab := hr.aft.2.1
 have hxt := hr.txt
 have hlen := hr.len
 have hol : (lrows r.opn).length = r.opens.length := by rw [hr.rows]; simp
 show Vi.Fn _ _ _ [.agg [.int .i64 r.kind, .int .i64 r.unit, .int .i64 r.page, .int .i64 r.pos, r.bef, r.aft, .int .i64 r.back, .int .i64 r.next, .str r.text, r.opn]] _
 refine fn_body (fun _ => .iso) Tryz.func168 rfl ?_
 refine vc_norm (env' := [_, _, _, _, _, _, _, _, _, _, _, _, _, _, _, _, _, _, _, _]) (H' := []) rfl rfl ?_
 refine vs (wr ?_)
 refine w_opH (v := .ptr 0 0 0) (env' := _) (H2 := [.arr 93 10 [[_, _, _, _, _, _, _, _, _, _]]]) rfl rfl rfl rfl (fun _ h => h) (v20 rfl ?_)
 refine wN rfl rfl rfl (v20 rfl ?_)
 refine we rfl (vs (wr ?_))
 refine wN (v := .ptr 0 0 2) rfl rfl rfl (v20 rfl ?_)
 refine wN rfl rfl rfl (v20 rfl ?_)
 refine w_callI (env' := _) rfl rfl rfl (by kernel_rfl) rfl (by repeat' first | exact IsL.lend ‹_› | exact IsL.lend0 ‹_› | refine mapL_cons ?_ ?_ | refine lend_agg ?_ | rfl) (sWithin G 0 r.page 119) rfl (v20 rfl ?_)
 refine wN rfl rfl rfl (v20 rfl ?_)
 apply w_and 4 6 (fun b => (rnone 6 ++ (rundef 4 ++ ([some (.bool b)] ++ (rnone 9))))) rfl
 ·
  intro hg6 hY6
  refine v20 rfl ?_
  refine wN (v := .ptr 0 0 3) (wanted_t 6 (by kernel_rfl) rfl) rfl rfl (v20 rfl ?_)
  refine wN (wanted_t 6 (by kernel_rfl) rfl) rfl rfl (v20 rfl ?_)
  refine w_callI (env' := _) (wanted_t 6 (by kernel_rfl) rfl) rfl rfl (by kernel_rfl) rfl (by repeat' first | exact IsL.lend ‹_› | exact IsL.lend0 ‹_› | refine mapL_cons ?_ ?_ | refine lend_agg ?_ | rfl) (sWithin G 0 r.pos 127) rfl (v20 rfl ?_)
  refine wN rfl rfl rfl (v20 rfl ?_)
  refine hY6 _ ?_
  repeat' first | exact trivial | refine ⟨.inr rfl, ?_⟩ | refine ⟨.inl rfl, ?_⟩ | fail
 ·
  intro hg6 hY6
  refine v20 rfl ?_
  iterate 3 refine wS (wanted_f 6 (by kernel_rfl) rfl) (v20 rfl ?_)
  refine wN rfl rfl rfl (v20 rfl ?_)
  refine hY6 _ ?_
  repeat' first | exact trivial | refine ⟨.inr rfl, ?_⟩ | refine ⟨.inl rfl, ?_⟩ | fail
 refine v20 rfl ?_
 refine wN rfl rfl rfl (v20 rfl ?_)
 apply w_and 8 11 (fun b => (rnone 11 ++ (rundef 8 ++ ([some (.bool b)])))) rfl
 ·
  intro hg11 hY11
  refine v20 rfl ?_
  refine wN (v := .ptr 0 0 5) (wanted_t 11 (by kernel_rfl) rfl) rfl rfl (v20 rfl ?_)
  refine wN (wanted_t 11 (by kernel_rfl) rfl) rfl rfl (v20 rfl ?_)
  first | refine wN (wanted_t 11 (by kernel_rfl) rfl) rfl rfl (v20 rfl ?_) | refine x_len (wanted_t 11 (by kernel_rfl) rfl) rfl ‹_› Tryz.underlying68 rfl (v20 rfl ?_)
  refine wN (v := .ptr 0 0 3) (wanted_t 11 (by kernel_rfl) rfl) rfl rfl (v20 rfl ?_)
  refine wN (wanted_t 11 (by kernel_rfl) rfl) rfl rfl (v20 rfl ?_)
  refine wN (v := .int .i64 (128 - r.pos)) (wanted_t 11 (by kernel_rfl) rfl) (int_eq (i64_small (by have := hg11; simp [within] at this; omega) (by have := hg11; simp [within] at this; omega))) rfl (v20 rfl ?_)
  refine w_callI (env' := _) (wanted_t 11 (by kernel_rfl) rfl) rfl rfl (by kernel_rfl) rfl (by repeat' first | exact IsL.lend ‹_› | exact IsL.lend0 ‹_› | refine mapL_cons ?_ ?_ | refine lend_agg ?_ | rfl) (sWithin G 1 (lrows r.aft).length (128 - r.pos)) rfl (v20 rfl ?_)
  refine wN rfl rfl rfl (v20 rfl ?_)
  refine hY11 _ ?_
  repeat' first | exact trivial | refine ⟨.inr rfl, ?_⟩ | refine ⟨.inl rfl, ?_⟩ | fail
 ·
  intro hg11 hY11
  refine v20 rfl ?_
  iterate 7 refine wS (wanted_f 11 (by kernel_rfl) rfl) (v20 rfl ?_)
  refine wN rfl rfl rfl (v20 rfl ?_)
  refine hY11 _ ?_
  repeat' first | exact trivial | refine ⟨.inr rfl, ?_⟩ | refine ⟨.inl rfl, ?_⟩ | fail
 refine v20 rfl ?_
 refine wN rfl rfl rfl (v20 rfl ?_)
 refine we rfl (vc_ret (r_fn rfl ?_))
 rfl
set_option maxHeartbeats 4000000 in
theorem sForms (G : Glob) (k : Int) : Vi.Fn Tryz.prog G 166 [.int .i64 k] (.tup [(formOf k).1.av, .bool (formOf k).2]) := by
 refine fn_body (fun _ => .iso) Tryz.func166 rfl ?_
 refine vc_norm (env' := [_, _, _, _, _, _, _, _, _, _, _, _, _, _, _, _, _, _, _, _, _, _, _]) (H' := []) rfl rfl ?_
 refine vs (wr ?_)
 refine w_opH (v := .ptr 0 0 0) (env' := _) (H2 := [.arr 212 5 [[_, _, _, _, _]]]) rfl rfl rfl rfl (fun _ h => h) (v23 rfl ?_)
 refine wN rfl rfl rfl (v23 rfl ?_)
 refine we rfl (vs (vs (wr ?_)))
 refine wN rfl rfl rfl (v23 rfl ?_)
 refine we rfl (vc_block (vs (wr ?_)))
 iterate 2 refine wN rfl rfl rfl (v23 rfl ?_)
 refine we rfl ?_
 refine vc_cond rfl (fun hc5 => ?_) (fun hc5 => ?_)
 ·
  refine vs (wr ?_)
  refine wN (v := .agg [_, _, _, _, _]) rfl rfl rfl (v23 rfl ?_)
  refine w_op0N (H2 := [.arr 212 5 [[_, _, _, _, _]]]) rfl rfl rfl (fun _ h => h) ?_
  refine wN rfl rfl rfl (v23 rfl ?_)
  refine we rfl (vc_ret (r_block (r_then (r_fn rfl ?_))))
  show some (AV.tup [AV.agg _, AV.bool _]) = some (AV.tup [(formOf k).1.av, AV.bool (formOf k).2])
  simp_all [formOf, Form.av]
 refine vs (wr ?_)
 iterate 2 refine wN rfl rfl rfl (v23 rfl ?_)
 refine we rfl ?_
 refine vc_cond rfl (fun hc8 => ?_) (fun hc8 => ?_)
 ·
  refine vs (wr ?_)
  refine wN (v := .agg [_, _, _, _, _]) rfl rfl rfl (v23 rfl ?_)
  refine w_op0N (H2 := [.arr 212 5 [[_, _, _, _, _]]]) rfl rfl rfl (fun _ h => h) ?_
  refine wN rfl rfl rfl (v23 rfl ?_)
  refine we rfl (vc_ret (r_block (r_then (r_fn rfl ?_))))
  show some (AV.tup [AV.agg _, AV.bool _]) = some (AV.tup [(formOf k).1.av, AV.bool (formOf k).2])
  simp_all [formOf, Form.av]
 refine vs (vs (wr ?_))
 iterate 2 refine wN rfl rfl rfl (v23 rfl ?_)
 refine we rfl ?_
 refine vc_cond rfl (fun hc11 => ?_) (fun hc11 => ?_)
 ·
  refine vc_skip (n_then ?_)
  refine vc_cond rfl (fun hc11 => ?_) (fun hc11 => ?_)
  ·
   refine vs (wr ?_)
   refine wN (v := .agg [_, _, _, _, _]) rfl rfl rfl (v23 rfl ?_)
   refine w_op0N (H2 := [.arr 212 5 [[_, _, _, _, _]]]) rfl rfl rfl (fun _ h => h) ?_
   refine wN rfl rfl rfl (v23 rfl ?_)
   refine we rfl (vc_ret (r_block (r_then (r_fn rfl ?_))))
   show some (AV.tup [AV.agg _, AV.bool _]) = some (AV.tup [(formOf k).1.av, AV.bool (formOf k).2])
   simp_all [formOf, Form.av]
  refine vs (vs (wr ?_))
  iterate 2 refine wN rfl rfl rfl (v23 rfl ?_)
  refine we rfl ?_
  refine vc_cond rfl (fun hc15 => ?_) (fun hc15 => ?_)
  ·
   refine vc_skip (n_then ?_)
   refine vc_cond rfl (fun hc15 => ?_) (fun hc15 => ?_)
   ·
    refine vs (wr ?_)
    refine wN (v := .agg [_, _, _, _, _]) rfl rfl rfl (v23 rfl ?_)
    refine w_op0N (H2 := [.arr 212 5 [[_, _, _, _, _]]]) rfl rfl rfl (fun _ h => h) ?_
    refine wN rfl rfl rfl (v23 rfl ?_)
    refine we rfl (vc_ret (r_block (r_then (r_fn rfl ?_))))
    show some (AV.tup [AV.agg _, AV.bool _]) = some (AV.tup [(formOf k).1.av, AV.bool (formOf k).2])
    simp_all [formOf, Form.av]
   refine vs (wr ?_)
   iterate 2 refine wN rfl rfl rfl (v23 rfl ?_)
   refine we rfl ?_
   refine vc_cond rfl (fun hc19 => ?_) (fun hc19 => ?_)
   ·
    refine vs (wr ?_)
    refine wN (v := .agg [_, _, _, _, _]) rfl rfl rfl (v23 rfl ?_)
    refine w_op0N (H2 := [.arr 212 5 [[_, _, _, _, _]]]) rfl rfl rfl (fun _ h => h) ?_
    refine wN rfl rfl rfl (v23 rfl ?_)
    refine we rfl (vc_ret (r_block (r_then (r_fn rfl ?_))))
    show some (AV.tup [AV.agg _, AV.bool _]) = some (AV.tup [(formOf k).1.av, AV.bool (formOf k).2])
    simp_all [formOf, Form.av]
   refine vc_skip (n_block (n_then (vs (wr ?_))))
   refine wN (v := .agg [_, _, _, _, _]) rfl rfl rfl (v23 rfl ?_)
   refine w_op0N (H2 := [.arr 212 5 [[_, _, _, _, _]]]) rfl rfl rfl (fun _ h => h) ?_
   refine wN rfl rfl rfl (v23 rfl ?_)
   refine we rfl (vc_ret (r_fn rfl ?_))
   show some (AV.tup [AV.agg _, AV.bool _]) = some (AV.tup [(formOf k).1.av, AV.bool (formOf k).2])
   simp_all [formOf, Form.av]
  refine wr ?_
  iterate 2 refine wN rfl rfl rfl (v23 rfl ?_)
  refine we rfl ?_
  refine vc_cond rfl (fun hc15 => ?_) (fun hc15 => ?_)
  ·
   refine vs (wr ?_)
   refine wN (v := .agg [_, _, _, _, _]) rfl rfl rfl (v23 rfl ?_)
   refine w_op0N (H2 := [.arr 212 5 [[_, _, _, _, _]]]) rfl rfl rfl (fun _ h => h) ?_
   refine wN rfl rfl rfl (v23 rfl ?_)
   refine we rfl (vc_ret (r_block (r_then (r_fn rfl ?_))))
   show some (AV.tup [AV.agg _, AV.bool _]) = some (AV.tup [(formOf k).1.av, AV.bool (formOf k).2])
   simp_all [formOf, Form.av]
  refine vs (wr ?_)
  iterate 2 refine wN rfl rfl rfl (v23 rfl ?_)
  refine we rfl ?_
  refine vc_cond rfl (fun hc19 => ?_) (fun hc19 => ?_)
  ·
   refine vs (wr ?_)
   refine wN (v := .agg [_, _, _, _, _]) rfl rfl rfl (v23 rfl ?_)
   refine w_op0N (H2 := [.arr 212 5 [[_, _, _, _, _]]]) rfl rfl rfl (fun _ h => h) ?_
   refine wN rfl rfl rfl (v23 rfl ?_)
   refine we rfl (vc_ret (r_block (r_then (r_fn rfl ?_))))
   show some (AV.tup [AV.agg _, AV.bool _]) = some (AV.tup [(formOf k).1.av, AV.bool (formOf k).2])
   simp_all [formOf, Form.av]
  refine vc_skip (n_block (n_then (vs (wr ?_))))
  refine wN (v := .agg [_, _, _, _, _]) rfl rfl rfl (v23 rfl ?_)
  refine w_op0N (H2 := [.arr 212 5 [[_, _, _, _, _]]]) rfl rfl rfl (fun _ h => h) ?_
  refine wN rfl rfl rfl (v23 rfl ?_)
  refine we rfl (vc_ret (r_fn rfl ?_))
  show some (AV.tup [AV.agg _, AV.bool _]) = some (AV.tup [(formOf k).1.av, AV.bool (formOf k).2])
  simp_all [formOf, Form.av]
 refine wr ?_
 iterate 2 refine wN rfl rfl rfl (v23 rfl ?_)
 refine we rfl ?_
 refine vc_cond rfl (fun hc11 => ?_) (fun hc11 => ?_)
 ·
  refine vs (wr ?_)
  refine wN (v := .agg [_, _, _, _, _]) rfl rfl rfl (v23 rfl ?_)
  refine w_op0N (H2 := [.arr 212 5 [[_, _, _, _, _]]]) rfl rfl rfl (fun _ h => h) ?_
  refine wN rfl rfl rfl (v23 rfl ?_)
  refine we rfl (vc_ret (r_block (r_then (r_fn rfl ?_))))
  show some (AV.tup [AV.agg _, AV.bool _]) = some (AV.tup [(formOf k).1.av, AV.bool (formOf k).2])
  simp_all [formOf, Form.av]
 refine vs (vs (wr ?_))
 iterate 2 refine wN rfl rfl rfl (v23 rfl ?_)
 refine we rfl ?_
 refine vc_cond rfl (fun hc15 => ?_) (fun hc15 => ?_)
 ·
  refine vc_skip (n_then ?_)
  refine vc_cond rfl (fun hc15 => ?_) (fun hc15 => ?_)
  ·
   refine vs (wr ?_)
   refine wN (v := .agg [_, _, _, _, _]) rfl rfl rfl (v23 rfl ?_)
   refine w_op0N (H2 := [.arr 212 5 [[_, _, _, _, _]]]) rfl rfl rfl (fun _ h => h) ?_
   refine wN rfl rfl rfl (v23 rfl ?_)
   refine we rfl (vc_ret (r_block (r_then (r_fn rfl ?_))))
   show some (AV.tup [AV.agg _, AV.bool _]) = some (AV.tup [(formOf k).1.av, AV.bool (formOf k).2])
   simp_all [formOf, Form.av]
  refine vs (wr ?_)
  iterate 2 refine wN rfl rfl rfl (v23 rfl ?_)
  refine we rfl ?_
  refine vc_cond rfl (fun hc19 => ?_) (fun hc19 => ?_)
  ·
   refine vs (wr ?_)
   refine wN (v := .agg [_, _, _, _, _]) rfl rfl rfl (v23 rfl ?_)
   refine w_op0N (H2 := [.arr 212 5 [[_, _, _, _, _]]]) rfl rfl rfl (fun _ h => h) ?_
   refine wN rfl rfl rfl (v23 rfl ?_)
   refine we rfl (vc_ret (r_block (r_then (r_fn rfl ?_))))
   show some (AV.tup [AV.agg _, AV.bool _]) = some (AV.tup [(formOf k).1.av, AV.bool (formOf k).2])
   simp_all [formOf, Form.av]
  refine vc_skip (n_block (n_then (vs (wr ?_))))
  refine wN (v := .agg [_, _, _, _, _]) rfl rfl rfl (v23 rfl ?_)
  refine w_op0N (H2 := [.arr 212 5 [[_, _, _, _, _]]]) rfl rfl rfl (fun _ h => h) ?_
  refine wN rfl rfl rfl (v23 rfl ?_)
  refine we rfl (vc_ret (r_fn rfl ?_))
  show some (AV.tup [AV.agg _, AV.bool _]) = some (AV.tup [(formOf k).1.av, AV.bool (formOf k).2])
  simp_all [formOf, Form.av]
 refine wr ?_
 iterate 2 refine wN rfl rfl rfl (v23 rfl ?_)
 refine we rfl ?_
 refine vc_cond rfl (fun hc15 => ?_) (fun hc15 => ?_)
 ·
  refine vs (wr ?_)
  refine wN (v := .agg [_, _, _, _, _]) rfl rfl rfl (v23 rfl ?_)
  refine w_op0N (H2 := [.arr 212 5 [[_, _, _, _, _]]]) rfl rfl rfl (fun _ h => h) ?_
  refine wN rfl rfl rfl (v23 rfl ?_)
  refine we rfl (vc_ret (r_block (r_then (r_fn rfl ?_))))
  show some (AV.tup [AV.agg _, AV.bool _]) = some (AV.tup [(formOf k).1.av, AV.bool (formOf k).2])
  simp_all [formOf, Form.av]
 refine vs (wr ?_)
 iterate 2 refine wN rfl rfl rfl (v23 rfl ?_)
 refine we rfl ?_
 refine vc_cond rfl (fun hc19 => ?_) (fun hc19 => ?_)
 ·
  refine vs (wr ?_)
  refine wN (v := .agg [_, _, _, _, _]) rfl rfl rfl (v23 rfl ?_)
  refine w_op0N (H2 := [.arr 212 5 [[_, _, _, _, _]]]) rfl rfl rfl (fun _ h => h) ?_
  refine wN rfl rfl rfl (v23 rfl ?_)
  refine we rfl (vc_ret (r_block (r_then (r_fn rfl ?_))))
  show some (AV.tup [AV.agg _, AV.bool _]) = some (AV.tup [(formOf k).1.av, AV.bool (formOf k).2])
  simp_all [formOf, Form.av]
 refine vc_skip (n_block (n_then (vs (wr ?_))))
 refine wN (v := .agg [_, _, _, _, _]) rfl rfl rfl (v23 rfl ?_)
 refine w_op0N (H2 := [.arr 212 5 [[_, _, _, _, _]]]) rfl rfl rfl (fun _ h => h) ?_
 refine wN rfl rfl rfl (v23 rfl ?_)
 refine we rfl (vc_ret (r_fn rfl ?_))
 show some (AV.tup [AV.agg _, AV.bool _]) = some (AV.tup [(formOf k).1.av, AV.bool (formOf k).2])
 simp_all [formOf, Form.av]
set_option maxHeartbeats 4000000 in
theorem sAreOpen (G : Glob) (x : AV) (l : List Ro) (hL : IsL x) (hrows : lrows x = l.map Ro.row) (hlen : l.length < 9223372036854775808) (hrdy : ∀ u ∈ l, u.ready.size < 9223372036854775808) : Vi.Fn Tryz.prog G 169 [x] (.bool (areOpen l)) := by
 have hxl : (lrows x).length = l.length := by rw [hrows]; simp
 refine fn_body (fun _ => .iso) Tryz.func169 rfl ?_
 refine vc_norm (env' := (_ :: _ :: _ :: _ :: _ :: _ :: _ :: _ :: _ :: _ :: _ :: _ :: _ :: _ :: _ :: _ :: _ :: _ :: _ :: _ :: _ :: _ :: _ :: _ :: _ :: _ :: _ :: _ :: _ :: _ :: _ :: _ :: _ :: _ :: _ :: _ :: _ :: _ :: _ :: _ :: _ :: _ :: _ :: _ :: _ :: _ :: _ :: [])) (H' := []) rfl rfl ?_
 refine vs (wr ?_)
 refine wN rfl rfl rfl (v47 rfl ?_)
 refine we rfl (vs (vs (wr ?_)))
 refine wN rfl rfl rfl (v47 rfl ?_)
 first | refine wN rfl rfl rfl (v47 rfl ?_) | refine x_len rfl rfl ‹_› Tryz.underlying91 rfl (v47 rfl ?_)
 refine wN rfl rfl rfl (v47 rfl ?_)
 refine we rfl (vc_block ?_)
 refine vc_loopU (α := { i : Nat // (∀ j, j < i → openBad l j = false) ∧ i ≤ l.length }) (fun a => ([none, none, some .undef, some .undef, some .undef, none, none, some (.int .i64 (a.1 : Nat))] ++ (rundef 36 ++ ([none, none, none])))) (fun a => l.length - a.1) ⟨0, fun j h => by omega, by omega⟩ (by repeat' first | exact trivial | refine ⟨.inr rfl, ?_⟩ | refine ⟨.inl rfl, ?_⟩ | fail) (fun _ => ⟨Nat.zero_le _, (by repeat' first | exact trivial | exact IsL.belowV ‹_› | refine ⟨?_, ?_⟩ | exact IsL.below ‹_› | (simp [valB, leafB, cellsB, IsL.below, *]; done) | (simp [valB, leafB, cellsB, IsL.below, *]; omega) | fail), (by repeat' first | exact trivial | exact IsL.below (by assumption) | refine ⟨?_, ?_⟩ | (simp [leafB]; done))⟩) ?_
 rintro ⟨i, hn, hi⟩ Y0 hY0
 refine vc_norm (env' := (_ :: _ :: _ :: _ :: _ :: _ :: _ :: (.int .i64 (i : Int)) :: _ :: _ :: _ :: _ :: _ :: _ :: _ :: _ :: _ :: _ :: _ :: _ :: _ :: _ :: _ :: _ :: _ :: _ :: _ :: _ :: _ :: _ :: _ :: _ :: _ :: _ :: _ :: _ :: _ :: _ :: _ :: _ :: _ :: _ :: _ :: _ :: _ :: _ :: _ :: [])) (H' := []) rfl rfl ?_
 refine vs (wr ?_)
 refine wN rfl rfl rfl (v47 rfl ?_)
 refine we rfl (vs ?_)
 refine vc_cond rfl (fun hc8 => ?_) (fun hc8 => ?_)
 ·
  have hlt : i < l.length := by have := of_decide_eq_true hc8; omega
  obtain ⟨u, hu⟩ : ∃ u, l[i]? = some u := ⟨_, List.getElem?_eq_getElem hlt⟩
  have hri := open_at hrows hu
  have hru := hrdy u (List.mem_of_getElem? hu)
  refine vc_skip (n_then (vs (vc_block (vs (wr ?_)))))
  refine wN rfl rfl rfl (v47 rfl ?_)
  first | refine wN (v := .iptr _ [_, _, _]) rfl rfl rfl (v47 rfl ?_) | (refine x_index rfl rfl ‹_› rfl el91 (by omega) ‹_› rfl (fun bo => ?_); refine v47 rfl ?_)
  refine wN (v := .agg [_, _, _]) rfl rfl rfl (v47 rfl ?_)
  refine w_opH (v := .ptr 0 0 0) (env' := _) (H2 := [.arr 140 3 [[_, _, _]]]) rfl rfl rfl rfl (fun _ h => h) (v47 rfl ?_)
  refine wN rfl rfl rfl (v47 rfl ?_)
  refine w_op0N (H2 := [.arr 140 3 [[_, _, _]]]) rfl rfl rfl (fun _ h => h) ?_
  refine we rfl (vs (w_regionD (by kernel_rfl) ?_))
  refine dN (v := .ptr 0 0 0) rfl rfl rfl (d47 rfl ?_)
  refine dN rfl rfl rfl (d47 rfl ?_)
  refine d_callI (env' := _) rfl rfl rfl (by kernel_rfl) rfl (by repeat' first | exact IsL.lend ‹_› | exact IsL.lend0 ‹_› | refine mapL_cons ?_ ?_ | refine lend_agg ?_ | rfl) (sWithin G 0 u.unit 1000000) rfl (d47 rfl ?_)
  iterate 2 refine dN rfl rfl rfl (d47 rfl ?_)
  refine d_split 16 rfl (fun hg16 => ?_) (fun hg16 => ?_)
  ·
   refine d47 rfl ?_
   iterate 4 refine dS (wanted_f 16 (by kernel_rfl) rfl) (d47 rfl ?_)
   iterate 2 refine dN rfl rfl rfl (d47 rfl ?_)
   iterate 4 refine dS (wanted_f 22 (by kernel_rfl) rfl) (d47 rfl ?_)
   iterate 2 refine dN rfl rfl rfl (d47 rfl ?_)
   iterate 3 refine dS (wanted_f 28 (by kernel_rfl) rfl) (d47 rfl ?_)
   iterate 9 refine dS (wanted_k 31 (by kernel_rfl) rfl) (d47 rfl ?_)
   refine dS (wanted_f 28 (by kernel_rfl) rfl) (d47 rfl ?_)
   refine dN rfl rfl rfl (d47 rfl ?_)
   refine d_end rfl ?_
   refine vc_true rfl ?_
   refine vs (wr ?_)
   refine wN rfl rfl rfl (v47 rfl ?_)
   refine we rfl (vc_ret (r_block (r_then (r_then (r_block (r_then (r_fn rfl ?_)))))))
   show some (AV.bool false) = some (AV.bool (areOpen l))
   have hb : openBad l i = true := by simp only [openBad, hu]; simp_all
   rw [areOpen, range_any_yes hb hlt]
   rfl
  refine d47 rfl ?_
  refine dN (v := .ptr 0 0 1) (wanted_t 16 (by kernel_rfl) rfl) rfl rfl (d47 rfl ?_)
  refine dN (wanted_t 16 (by kernel_rfl) rfl) rfl rfl (d47 rfl ?_)
  refine d_callI (env' := _) (wanted_t 16 (by kernel_rfl) rfl) rfl rfl (by kernel_rfl) rfl (by repeat' first | exact IsL.lend ‹_› | exact IsL.lend0 ‹_› | refine mapL_cons ?_ ?_ | refine lend_agg ?_ | rfl) (sWithin G 0 u.next 1000000) rfl (d47 rfl ?_)
  refine dN (wanted_t 16 (by kernel_rfl) rfl) rfl rfl (d47 rfl ?_)
  iterate 2 refine dN rfl rfl rfl (d47 rfl ?_)
  refine d_split 22 rfl (fun hg22 => ?_) (fun hg22 => ?_)
  ·
   refine d47 rfl ?_
   iterate 4 refine dS (wanted_f 22 (by kernel_rfl) rfl) (d47 rfl ?_)
   iterate 2 refine dN rfl rfl rfl (d47 rfl ?_)
   iterate 3 refine dS (wanted_f 28 (by kernel_rfl) rfl) (d47 rfl ?_)
   iterate 9 refine dS (wanted_k 31 (by kernel_rfl) rfl) (d47 rfl ?_)
   refine dS (wanted_f 28 (by kernel_rfl) rfl) (d47 rfl ?_)
   refine dN rfl rfl rfl (d47 rfl ?_)
   refine d_end rfl ?_
   refine vc_true rfl ?_
   refine vs (wr ?_)
   refine wN rfl rfl rfl (v47 rfl ?_)
   refine we rfl (vc_ret (r_block (r_then (r_then (r_block (r_then (r_fn rfl ?_)))))))
   show some (AV.bool false) = some (AV.bool (areOpen l))
   have hb : openBad l i = true := by simp only [openBad, hu]; simp_all
   rw [areOpen, range_any_yes hb hlt]
   rfl
  refine d47 rfl ?_
  refine dN (v := .ptr 0 0 2) (wanted_t 22 (by kernel_rfl) rfl) rfl rfl (d47 rfl ?_)
  iterate 3 refine dN (wanted_t 22 (by kernel_rfl) rfl) rfl rfl (d47 rfl ?_)
  iterate 2 refine dN rfl rfl rfl (d47 rfl ?_)
  refine d_split 28 rfl (fun hg28 => ?_) (fun hg28 => ?_)
  ·
   refine d47 rfl ?_
   iterate 3 refine dS (wanted_f 28 (by kernel_rfl) rfl) (d47 rfl ?_)
   iterate 9 refine dS (wanted_k 31 (by kernel_rfl) rfl) (d47 rfl ?_)
   refine dS (wanted_f 28 (by kernel_rfl) rfl) (d47 rfl ?_)
   refine dN rfl rfl rfl (d47 rfl ?_)
   refine d_end rfl ?_
   refine vc_true rfl ?_
   refine vs (wr ?_)
   refine wN rfl rfl rfl (v47 rfl ?_)
   refine we rfl (vc_ret (r_block (r_then (r_then (r_block (r_then (r_fn rfl ?_)))))))
   show some (AV.bool false) = some (AV.bool (areOpen l))
   have hb : openBad l i = true := by simp only [openBad, hu]; simp_all
   rw [areOpen, range_any_yes hb hlt]
   rfl
  refine d47 rfl ?_
  iterate 3 refine dN (wanted_t 28 (by kernel_rfl) rfl) rfl rfl (d47 rfl ?_)
  refine d_split 31 rfl (fun hg31 => ?_) (fun hg31 => ?_)
  ·
   obtain ⟨v, hv⟩ : ∃ v, l[i - 1]? = some v := ⟨_, List.getElem?_eq_getElem (by omega)⟩
   have hi0 : 0 < i := by have := of_decide_eq_true hg31; omega
   have hrv := open_at hrows hv
   rw [show i - 1 = ((i : Int) - 1).toNat by omega] at hrv
   refine d47 rfl ?_
   refine dN (v := .ptr 0 0 0) (wanted_t 31 (by kernel_rfl) rfl) rfl rfl (d47 rfl ?_)
   iterate 3 refine dN (wanted_t 31 (by kernel_rfl) rfl) rfl rfl (d47 rfl ?_)
   refine dN (v := .int .i64 ((i : Int) - 1)) (wanted_t 31 (by kernel_rfl) rfl) (int_eq (i64_small (by omega) (by omega))) rfl (d47 rfl ?_)
   first | refine dN (v := .iptr _ [_, _, _]) (wanted_t 31 (by kernel_rfl) rfl) rfl rfl (d47 rfl ?_) | (refine y_index (wanted_t 31 (by kernel_rfl) rfl) rfl ‹_› rfl el91 (by omega) ‹_› rfl (fun bo => ?_); refine d47 rfl ?_)
   refine dN (v := .iptr _ [_, _, _]) (wanted_t 31 (by kernel_rfl) rfl) rfl rfl (d47 rfl ?_)
   iterate 2 refine dN (wanted_t 31 (by kernel_rfl) rfl) rfl rfl (d47 rfl ?_)
   refine dN (wanted_t 28 (by kernel_rfl) rfl) rfl rfl (d47 rfl ?_)
   refine dN rfl rfl rfl (d47 rfl ?_)
   refine d_end rfl ?_
   refine vc_cond rfl (fun hc42 => ?_) (fun hc42 => ?_)
   ·
    refine vs (wr ?_)
    refine wN rfl rfl rfl (v47 rfl ?_)
    refine we rfl (vc_ret (r_block (r_then (r_then (r_block (r_then (r_fn rfl ?_)))))))
    show some (AV.bool false) = some (AV.bool (areOpen l))
    have hb : openBad l i = true := by simp only [openBad, hu]; simp_all
    rw [areOpen, range_any_yes hb hlt]
    rfl
   refine vc_skip (n_block (n_then (wr ?_)))
   iterate 2 refine wN rfl rfl rfl (v47 rfl ?_)
   refine we rfl ?_
   refine hY0 ⟨i + 1, none_upto hn (by simp only [openBad, hu]; simp_all), hlt⟩ (by simp only; omega) _ _ _ ?_ rfl
   repeat' first | exact trivial | refine ⟨.inr rfl, ?_⟩ | refine ⟨.inl rfl, ?_⟩ | refine ⟨.inl ?_, ?_⟩ | fail
   all_goals first | exact (int_succ (by omega)).symm
  refine d47 rfl ?_
  iterate 9 refine dS (wanted_f 31 (by kernel_rfl) rfl) (d47 rfl ?_)
  refine dN (wanted_t 28 (by kernel_rfl) rfl) rfl rfl (d47 rfl ?_)
  refine dN rfl rfl rfl (d47 rfl ?_)
  refine d_end rfl ?_
  refine vc_false rfl ?_
  refine vc_skip (n_block (n_then (wr ?_)))
  iterate 2 refine wN rfl rfl rfl (v47 rfl ?_)
  refine we rfl ?_
  refine hY0 ⟨i + 1, none_upto hn (by simp only [openBad, hu]; simp_all), hlt⟩ (by simp only; omega) _ _ _ ?_ rfl
  repeat' first | exact trivial | refine ⟨.inr rfl, ?_⟩ | refine ⟨.inl rfl, ?_⟩ | refine ⟨.inl ?_, ?_⟩ | fail
  all_goals first | exact (int_succ (by omega)).symm
 have hge : l.length ≤ i := by have := of_decide_eq_false hc8; omega
 refine vc_exit (x_then (x_then (x_same (n_then (vs (wr ?_))))))
 refine wN rfl rfl rfl (v47 rfl ?_)
 first | refine wN rfl rfl rfl (v47 rfl ?_) | refine x_len rfl rfl ‹_› Tryz.underlying91 rfl (v47 rfl ?_)
 iterate 2 refine wN rfl rfl rfl (v47 rfl ?_)
 refine we rfl (vc_ret (r_fn rfl ?_))
 show some (AV.bool _) = some (AV.bool (areOpen l))
 rw [areOpen, range_any_no hn hge, hxl]
 rfl
set_option maxHeartbeats 4000000 in
theorem sValid (G : Glob) (r : Rc) (hr : r.Ok) : Vi.Fn Tryz.prog G 141 [.agg r.row] (.bool (validP r)) := by
 have hplace := sIsPlace G r hr
 have hareopen := sAreOpen G r.opn r.opens hr.opn hr.rows hr.len hr.rdy
 have hLb := hr.bef.1
 have hLa := hr.aft.1
 have hLo := hr.opn
 have hbb := hr.bef.2.1
 have hab := hr.aft.2.1
 have hxt := hr.txt
 have hlen := hr.len
 have hol : (lrows r.opn).length = r.opens.length := by rw [hr.rows]; simp
 show Vi.Fn _ _ _ [.agg [.int .i64 r.kind, .int .i64 r.unit, .int .i64 r.page, .int .i64 r.pos, r.bef, r.aft, .int .i64 r.back, .int .i64 r.next, .str r.text, r.opn]] _
 obtain ⟨f, ok, hf⟩ : ∃ f ok, formOf r.kind = (f, ok) := ⟨_, _, rfl⟩
 have hforms := sForms G r.kind
 rw [hf] at hforms
 have hV : validP r = (!(!ok || !within 0 r.unit 1000000) && !bad1 f r && !bad2 f r && !bad3 f r && !bad4 f r && textOk r) := by simp only [validP, hf]
 refine fn_body (fun _ => .iso) Tryz.func141 rfl ?_
 refine vc_norm (env' := (_ :: _ :: _ :: _ :: _ :: _ :: _ :: _ :: _ :: _ :: _ :: _ :: _ :: _ :: _ :: _ :: _ :: _ :: _ :: _ :: _ :: _ :: _ :: _ :: _ :: _ :: _ :: _ :: _ :: _ :: _ :: _ :: _ :: _ :: _ :: _ :: _ :: _ :: _ :: _ :: _ :: _ :: _ :: _ :: _ :: _ :: _ :: _ :: _ :: _ :: _ :: _ :: _ :: _ :: _ :: _ :: _ :: _ :: _ :: _ :: _ :: _ :: _ :: _ :: _ :: _ :: _ :: _ :: _ :: _ :: _ :: _ :: _ :: _ :: _ :: _ :: _ :: _ :: _ :: _ :: _ :: _ :: _ :: _ :: _ :: _ :: _ :: _ :: _ :: _ :: _ :: _ :: _ :: _ :: _ :: _ :: _ :: _ :: _ :: _ :: _ :: _ :: _ :: _ :: _ :: _ :: _ :: _ :: _ :: _ :: _ :: _ :: _ :: _ :: _ :: _ :: _ :: _ :: _ :: _ :: _ :: _ :: _ :: _ :: _ :: _ :: _ :: _ :: _ :: _ :: _ :: _ :: _ :: _ :: _ :: _ :: _ :: _ :: _ :: [])) (H' := []) rfl rfl ?_
 refine vs (wr ?_)
 refine w_opH (v := .ptr 0 0 0) (env' := _) (H2 := [.arr 93 10 [[_, _, _, _, _, _, _, _, _, _]]]) rfl rfl rfl rfl (fun _ h => h) (v139 rfl ?_)
 refine wN rfl rfl rfl (v139 rfl ?_)
 refine we rfl (vs (wr ?_))
 refine wN (v := .ptr 0 0 0) rfl rfl rfl (v139 rfl ?_)
 refine wN rfl rfl rfl (v139 rfl ?_)
 refine w_callI (env' := _) rfl rfl rfl (by kernel_rfl) rfl (by repeat' first | exact IsL.lend ‹_› | exact IsL.lend0 ‹_› | refine mapL_cons ?_ ?_ | refine lend_agg ?_ | rfl) (hforms) rfl (v139 rfl ?_)
 refine wN rfl rfl rfl (v139 rfl ?_)
 refine wN (v := .agg [_, _, _, _, _]) rfl rfl rfl (v139 rfl ?_)
 refine wN rfl rfl rfl (v139 rfl ?_)
 refine w_opH (v := .ptr 1 0 0) (env' := _) (H2 := [.arr 93 10 [[_, _, _, _, _, _, _, _, _, _]], .arr 212 5 [[_, _, _, _, _]]]) rfl rfl rfl rfl (fun _ h => h) (v139 rfl ?_)
 refine w_op0N (H2 := [.arr 93 10 [[_, _, _, _, _, _, _, _, _, _]], .arr 212 5 [[_, _, _, _, _]]]) rfl rfl rfl (fun _ h => h) ?_
 refine wN rfl rfl rfl (v139 rfl ?_)
 refine we rfl (vs (vs (wr ?_)))
 iterate 3 refine wN rfl rfl rfl (v139 rfl ?_)
 apply w_or 5 13 (fun b => (rnone 13 ++ (rundef 5 ++ ([some (.bool b)] ++ (rnone 120))))) rfl
 ·
  intro hg13 hY13
  refine v139 rfl ?_
  iterate 4 refine wS (wanted_f 13 (by kernel_rfl) rfl) (v139 rfl ?_)
  refine wN rfl rfl rfl (v139 rfl ?_)
  refine hY13 _ ?_
  repeat' first | exact trivial | refine ⟨.inr rfl, ?_⟩ | refine ⟨.inl rfl, ?_⟩ | fail
 ·
  intro hg13 hY13
  refine v139 rfl ?_
  refine wN (v := .ptr 0 0 1) (wanted_t 13 (by kernel_rfl) rfl) rfl rfl (v139 rfl ?_)
  refine wN (wanted_t 13 (by kernel_rfl) rfl) rfl rfl (v139 rfl ?_)
  refine w_callI (env' := _) (wanted_t 13 (by kernel_rfl) rfl) rfl rfl (by kernel_rfl) rfl (by repeat' first | exact IsL.lend ‹_› | exact IsL.lend0 ‹_› | refine mapL_cons ?_ ?_ | refine lend_agg ?_ | rfl) (sWithin G 0 r.unit 1000000) rfl (v139 rfl ?_)
  refine wN (wanted_t 13 (by kernel_rfl) rfl) rfl rfl (v139 rfl ?_)
  refine wN rfl rfl rfl (v139 rfl ?_)
  refine hY13 _ ?_
  repeat' first | exact trivial | refine ⟨.inr rfl, ?_⟩ | refine ⟨.inl rfl, ?_⟩ | fail
 refine v139 rfl ?_
 refine we rfl ?_
 refine vc_cond rfl (fun hc18 => ?_) (fun hc18 => ?_)
 ·
  refine vs (wr ?_)
  refine wN rfl rfl rfl (v139 rfl ?_)
  refine we rfl (vc_ret (r_then (r_fn rfl ?_)))
  show some (AV.bool false) = some (AV.bool (validP r))
  simp [hV, hc18]
 refine vc_skip (n_then (vs (vs (wr ?_))))
 refine wN (v := .ptr 1 0 0) rfl rfl rfl (v139 rfl ?_)
 iterate 2 refine wN rfl rfl rfl (v139 rfl ?_)
 apply w_and 4 21 (fun b => (rnone 21 ++ (rundef 4 ++ ([some (.bool b)] ++ (rnone 113))))) rfl
 ·
  intro hg21 hY21
  refine v139 rfl ?_
  refine wN (v := .agg [_, _, _, _, _, _, _, _, _, _]) (wanted_t 21 (by kernel_rfl) rfl) rfl rfl (v139 rfl ?_)
  refine w_callI (env' := _) (wanted_t 21 (by kernel_rfl) rfl) rfl rfl (by kernel_rfl) rfl (by repeat' first | exact IsL.lend ‹_› | exact IsL.lend0 ‹_› | refine mapL_cons ?_ ?_ | refine lend_agg ?_ | rfl) (hplace) rfl (v139 rfl ?_)
  refine wN (wanted_t 21 (by kernel_rfl) rfl) rfl rfl (v139 rfl ?_)
  refine wN rfl rfl rfl (v139 rfl ?_)
  refine hY21 _ ?_
  repeat' first | exact trivial | refine ⟨.inr rfl, ?_⟩ | refine ⟨.inl rfl, ?_⟩ | fail
 ·
  intro hg21 hY21
  refine v139 rfl ?_
  iterate 3 refine wS (wanted_f 21 (by kernel_rfl) rfl) (v139 rfl ?_)
  refine wN rfl rfl rfl (v139 rfl ?_)
  refine hY21 _ ?_
  repeat' first | exact trivial | refine ⟨.inr rfl, ?_⟩ | refine ⟨.inl rfl, ?_⟩ | fail
 refine v139 rfl ?_
 refine wN rfl rfl rfl (v139 rfl ?_)
 apply w_or 20 26 (fun b => (rnone 26 ++ (rundef 20 ++ ([some (.bool b)] ++ (rnone 92))))) rfl
 ·
  intro hg26 hY26
  refine v139 rfl ?_
  iterate 4 refine wS (wanted_f 26 (by kernel_rfl) rfl) (v139 rfl ?_)
  iterate 4 refine wS (wanted_k 30 (by kernel_rfl) rfl) (v139 rfl ?_)
  iterate 3 refine wS (wanted_k 34 (by kernel_rfl) rfl) (v139 rfl ?_)
  iterate 2 refine wS (wanted_k 30 (by kernel_rfl) rfl) (v139 rfl ?_)
  iterate 4 refine wS (wanted_k 39 (by kernel_rfl) rfl) (v139 rfl ?_)
  refine wS (wanted_k 30 (by kernel_rfl) rfl) (v139 rfl ?_)
  refine wS (wanted_f 26 (by kernel_rfl) rfl) (v139 rfl ?_)
  refine wN rfl rfl rfl (v139 rfl ?_)
  refine hY26 _ ?_
  repeat' first | exact trivial | refine ⟨.inr rfl, ?_⟩ | refine ⟨.inl rfl, ?_⟩ | fail
 ·
  intro hg26 hY26
  refine v139 rfl ?_
  refine wN (v := .ptr 1 0 0) (wanted_t 26 (by kernel_rfl) rfl) rfl rfl (v139 rfl ?_)
  iterate 3 refine wN (wanted_t 26 (by kernel_rfl) rfl) rfl rfl (v139 rfl ?_)
  apply w_and 15 30 (fun b => (rnone 30 ++ (rundef 15 ++ ([some (.bool b)] ++ (rnone 93))))) rfl
  ·
   intro hg30 hY30
   refine v139 rfl ?_
   refine wN (v := .ptr 0 0 2) (wanted_t 30 (by kernel_rfl) rfl) rfl rfl (v139 rfl ?_)
   iterate 3 refine wN (wanted_t 30 (by kernel_rfl) rfl) rfl rfl (v139 rfl ?_)
   apply w_or 4 34 (fun b => (rnone 34 ++ (rundef 4 ++ ([some (.bool b)] ++ (rnone 100))))) rfl
   ·
    intro hg34 hY34
    refine v139 rfl ?_
    iterate 3 refine wS (wanted_f 34 (by kernel_rfl) rfl) (v139 rfl ?_)
    refine wN (wanted_t 30 (by kernel_rfl) rfl) rfl rfl (v139 rfl ?_)
    refine hY34 _ ?_
    repeat' first | exact trivial | refine ⟨.inr rfl, ?_⟩ | refine ⟨.inl rfl, ?_⟩ | fail
   ·
    intro hg34 hY34
    refine v139 rfl ?_
    refine wN (v := .ptr 0 0 3) (wanted_t 34 (by kernel_rfl) rfl) rfl rfl (v139 rfl ?_)
    iterate 2 refine wN (wanted_t 34 (by kernel_rfl) rfl) rfl rfl (v139 rfl ?_)
    refine wN (wanted_t 30 (by kernel_rfl) rfl) rfl rfl (v139 rfl ?_)
    refine hY34 _ ?_
    repeat' first | exact trivial | refine ⟨.inr rfl, ?_⟩ | refine ⟨.inl rfl, ?_⟩ | fail
   refine v139 rfl ?_
   refine wN (wanted_t 30 (by kernel_rfl) rfl) rfl rfl (v139 rfl ?_)
   apply w_or 5 39 (fun b => (rnone 39 ++ (rundef 5 ++ ([some (.bool b)] ++ (rnone 94))))) rfl
   ·
    intro hg39 hY39
    refine v139 rfl ?_
    iterate 4 refine wS (wanted_f 39 (by kernel_rfl) rfl) (v139 rfl ?_)
    refine wN (wanted_t 30 (by kernel_rfl) rfl) rfl rfl (v139 rfl ?_)
    refine hY39 _ ?_
    repeat' first | exact trivial | refine ⟨.inr rfl, ?_⟩ | refine ⟨.inl rfl, ?_⟩ | fail
   ·
    intro hg39 hY39
    refine v139 rfl ?_
    refine wN (v := .ptr 0 0 5) (wanted_t 39 (by kernel_rfl) rfl) rfl rfl (v139 rfl ?_)
    refine wN (wanted_t 39 (by kernel_rfl) rfl) rfl rfl (v139 rfl ?_)
    first | refine wN (wanted_t 39 (by kernel_rfl) rfl) rfl rfl (v139 rfl ?_) | refine x_len (wanted_t 39 (by kernel_rfl) rfl) rfl ‹_› Tryz.underlying68 rfl (v139 rfl ?_)
    refine wN (wanted_t 39 (by kernel_rfl) rfl) rfl rfl (v139 rfl ?_)
    refine wN (wanted_t 30 (by kernel_rfl) rfl) rfl rfl (v139 rfl ?_)
    refine hY39 _ ?_
    repeat' first | exact trivial | refine ⟨.inr rfl, ?_⟩ | refine ⟨.inl rfl, ?_⟩ | fail
   refine v139 rfl ?_
   refine wN (wanted_t 26 (by kernel_rfl) rfl) rfl rfl (v139 rfl ?_)
   refine hY30 _ ?_
   repeat' first | exact trivial | refine ⟨.inr rfl, ?_⟩ | refine ⟨.inl rfl, ?_⟩ | fail
  ·
   intro hg30 hY30
   refine v139 rfl ?_
   iterate 4 refine wS (wanted_f 30 (by kernel_rfl) rfl) (v139 rfl ?_)
   iterate 3 refine wS (wanted_k 34 (by kernel_rfl) rfl) (v139 rfl ?_)
   iterate 2 refine wS (wanted_f 30 (by kernel_rfl) rfl) (v139 rfl ?_)
   iterate 4 refine wS (wanted_k 39 (by kernel_rfl) rfl) (v139 rfl ?_)
   refine wS (wanted_f 30 (by kernel_rfl) rfl) (v139 rfl ?_)
   refine wN (wanted_t 26 (by kernel_rfl) rfl) rfl rfl (v139 rfl ?_)
   refine hY30 _ ?_
   repeat' first | exact trivial | refine ⟨.inr rfl, ?_⟩ | refine ⟨.inl rfl, ?_⟩ | fail
  refine v139 rfl ?_
  refine wN rfl rfl rfl (v139 rfl ?_)
  refine hY26 _ ?_
  repeat' first | exact trivial | refine ⟨.inr rfl, ?_⟩ | refine ⟨.inl rfl, ?_⟩ | fail
 refine v139 rfl ?_
 refine we rfl ?_
 refine vc_cond rfl (fun hc46 => ?_) (fun hc46 => ?_)
 ·
  refine vs (wr ?_)
  refine wN rfl rfl rfl (v139 rfl ?_)
  refine we rfl (vc_ret (r_then (r_fn rfl ?_)))
  have hb : bad1 f r = true := hc46
  show some (AV.bool false) = some (AV.bool (validP r))
  simp [hV, hb]
 refine vc_skip (n_then (vs (vs (wr ?_))))
 refine wN (v := .ptr 1 0 1) rfl rfl rfl (v139 rfl ?_)
 iterate 2 refine wN rfl rfl rfl (v139 rfl ?_)
 apply w_and 8 49 (fun b => (rnone 49 ++ (rundef 8 ++ ([some (.bool b)] ++ (rnone 81))))) rfl
 ·
  intro hg49 hY49
  refine v139 rfl ?_
  refine wN (v := .ptr 0 0 4) (wanted_t 49 (by kernel_rfl) rfl) rfl rfl (v139 rfl ?_)
  refine wN (wanted_t 49 (by kernel_rfl) rfl) rfl rfl (v139 rfl ?_)
  first | refine wN (wanted_t 49 (by kernel_rfl) rfl) rfl rfl (v139 rfl ?_) | refine x_len (wanted_t 49 (by kernel_rfl) rfl) rfl ‹_› Tryz.underlying68 rfl (v139 rfl ?_)
  refine wN (v := .ptr 0 0 5) (wanted_t 49 (by kernel_rfl) rfl) rfl rfl (v139 rfl ?_)
  refine wN (wanted_t 49 (by kernel_rfl) rfl) rfl rfl (v139 rfl ?_)
  first | refine wN (wanted_t 49 (by kernel_rfl) rfl) rfl rfl (v139 rfl ?_) | refine x_len (wanted_t 49 (by kernel_rfl) rfl) rfl ‹_› Tryz.underlying68 rfl (v139 rfl ?_)
  refine wN (wanted_t 49 (by kernel_rfl) rfl) rfl rfl (v139 rfl ?_)
  refine wN rfl rfl rfl (v139 rfl ?_)
  refine hY49 _ ?_
  repeat' first | exact trivial | refine ⟨.inr rfl, ?_⟩ | refine ⟨.inl rfl, ?_⟩ | fail
 ·
  intro hg49 hY49
  refine v139 rfl ?_
  iterate 7 refine wS (wanted_f 49 (by kernel_rfl) rfl) (v139 rfl ?_)
  refine wN rfl rfl rfl (v139 rfl ?_)
  refine hY49 _ ?_
  repeat' first | exact trivial | refine ⟨.inr rfl, ?_⟩ | refine ⟨.inl rfl, ?_⟩ | fail
 refine v139 rfl ?_
 refine wN rfl rfl rfl (v139 rfl ?_)
 apply w_or 10 58 (fun b => (rnone 58 ++ (rundef 10 ++ ([some (.bool b)] ++ (rnone 70))))) rfl
 ·
  intro hg58 hY58
  refine v139 rfl ?_
  iterate 4 refine wS (wanted_f 58 (by kernel_rfl) rfl) (v139 rfl ?_)
  iterate 4 refine wS (wanted_k 62 (by kernel_rfl) rfl) (v139 rfl ?_)
  refine wS (wanted_f 58 (by kernel_rfl) rfl) (v139 rfl ?_)
  refine wN rfl rfl rfl (v139 rfl ?_)
  refine hY58 _ ?_
  repeat' first | exact trivial | refine ⟨.inr rfl, ?_⟩ | refine ⟨.inl rfl, ?_⟩ | fail
 ·
  intro hg58 hY58
  refine v139 rfl ?_
  refine wN (v := .ptr 1 0 1) (wanted_t 58 (by kernel_rfl) rfl) rfl rfl (v139 rfl ?_)
  iterate 3 refine wN (wanted_t 58 (by kernel_rfl) rfl) rfl rfl (v139 rfl ?_)
  apply w_and 5 62 (fun b => (rnone 62 ++ (rundef 5 ++ ([some (.bool b)] ++ (rnone 71))))) rfl
  ·
   intro hg62 hY62
   refine v139 rfl ?_
   refine wN (v := .ptr 0 0 4) (wanted_t 62 (by kernel_rfl) rfl) rfl rfl (v139 rfl ?_)
   refine wN (wanted_t 62 (by kernel_rfl) rfl) rfl rfl (v139 rfl ?_)
   first | refine wN (wanted_t 62 (by kernel_rfl) rfl) rfl rfl (v139 rfl ?_) | refine x_len (wanted_t 62 (by kernel_rfl) rfl) rfl ‹_› Tryz.underlying68 rfl (v139 rfl ?_)
   refine wN (wanted_t 62 (by kernel_rfl) rfl) rfl rfl (v139 rfl ?_)
   refine wN (wanted_t 58 (by kernel_rfl) rfl) rfl rfl (v139 rfl ?_)
   refine hY62 _ ?_
   repeat' first | exact trivial | refine ⟨.inr rfl, ?_⟩ | refine ⟨.inl rfl, ?_⟩ | fail
  ·
   intro hg62 hY62
   refine v139 rfl ?_
   iterate 4 refine wS (wanted_f 62 (by kernel_rfl) rfl) (v139 rfl ?_)
   refine wN (wanted_t 58 (by kernel_rfl) rfl) rfl rfl (v139 rfl ?_)
   refine hY62 _ ?_
   repeat' first | exact trivial | refine ⟨.inr rfl, ?_⟩ | refine ⟨.inl rfl, ?_⟩ | fail
  refine v139 rfl ?_
  refine wN rfl rfl rfl (v139 rfl ?_)
  refine hY58 _ ?_
  repeat' first | exact trivial | refine ⟨.inr rfl, ?_⟩ | refine ⟨.inl rfl, ?_⟩ | fail
 refine v139 rfl ?_
 refine we rfl ?_
 refine vc_cond rfl (fun hc68 => ?_) (fun hc68 => ?_)
 ·
  refine vs (wr ?_)
  refine wN rfl rfl rfl (v139 rfl ?_)
  refine we rfl (vc_ret (r_then (r_fn rfl ?_)))
  have hb : bad2 f r = true := hc68
  show some (AV.bool false) = some (AV.bool (validP r))
  simp [hV, hb]
 refine vc_skip (n_then (vs (vs (wr ?_))))
 refine wN (v := .ptr 1 0 2) rfl rfl rfl (v139 rfl ?_)
 iterate 2 refine wN rfl rfl rfl (v139 rfl ?_)
 apply w_and 11 71 (fun b => (rnone 71 ++ (rundef 11 ++ ([some (.bool b)] ++ (rnone 56))))) rfl
 ·
  intro hg71 hY71
  refine v139 rfl ?_
  refine wN (v := .ptr 0 0 6) (wanted_t 71 (by kernel_rfl) rfl) rfl rfl (v139 rfl ?_)
  refine wN (wanted_t 71 (by kernel_rfl) rfl) rfl rfl (v139 rfl ?_)
  refine w_callI (env' := _) (wanted_t 71 (by kernel_rfl) rfl) rfl rfl (by kernel_rfl) rfl (by repeat' first | exact IsL.lend ‹_› | exact IsL.lend0 ‹_› | refine mapL_cons ?_ ?_ | refine lend_agg ?_ | rfl) (sWithin G 0 r.back 1000000) rfl (v139 rfl ?_)
  iterate 2 refine wN (wanted_t 71 (by kernel_rfl) rfl) rfl rfl (v139 rfl ?_)
  apply w_or 5 76 (fun b => (rnone 76 ++ (rundef 5 ++ ([some (.bool b)] ++ (rnone 57))))) rfl
  ·
   intro hg76 hY76
   refine v139 rfl ?_
   iterate 4 refine wS (wanted_f 76 (by kernel_rfl) rfl) (v139 rfl ?_)
   refine wN (wanted_t 71 (by kernel_rfl) rfl) rfl rfl (v139 rfl ?_)
   refine hY76 _ ?_
   repeat' first | exact trivial | refine ⟨.inr rfl, ?_⟩ | refine ⟨.inl rfl, ?_⟩ | fail
  ·
   intro hg76 hY76
   refine v139 rfl ?_
   refine wN (v := .ptr 0 0 7) (wanted_t 76 (by kernel_rfl) rfl) rfl rfl (v139 rfl ?_)
   refine wN (wanted_t 76 (by kernel_rfl) rfl) rfl rfl (v139 rfl ?_)
   refine w_callI (env' := _) (wanted_t 76 (by kernel_rfl) rfl) rfl rfl (by kernel_rfl) rfl (by repeat' first | exact IsL.lend ‹_› | exact IsL.lend0 ‹_› | refine mapL_cons ?_ ?_ | refine lend_agg ?_ | rfl) (sWithin G 0 r.next 1000000) rfl (v139 rfl ?_)
   refine wN (wanted_t 76 (by kernel_rfl) rfl) rfl rfl (v139 rfl ?_)
   refine wN (wanted_t 71 (by kernel_rfl) rfl) rfl rfl (v139 rfl ?_)
   refine hY76 _ ?_
   repeat' first | exact trivial | refine ⟨.inr rfl, ?_⟩ | refine ⟨.inl rfl, ?_⟩ | fail
  refine v139 rfl ?_
  refine wN rfl rfl rfl (v139 rfl ?_)
  refine hY71 _ ?_
  repeat' first | exact trivial | refine ⟨.inr rfl, ?_⟩ | refine ⟨.inl rfl, ?_⟩ | fail
 ·
  intro hg71 hY71
  refine v139 rfl ?_
  iterate 5 refine wS (wanted_f 71 (by kernel_rfl) rfl) (v139 rfl ?_)
  iterate 4 refine wS (wanted_k 76 (by kernel_rfl) rfl) (v139 rfl ?_)
  refine wS (wanted_f 71 (by kernel_rfl) rfl) (v139 rfl ?_)
  refine wN rfl rfl rfl (v139 rfl ?_)
  refine hY71 _ ?_
  repeat' first | exact trivial | refine ⟨.inr rfl, ?_⟩ | refine ⟨.inl rfl, ?_⟩ | fail
 refine v139 rfl ?_
 refine wN rfl rfl rfl (v139 rfl ?_)
 apply w_or 14 83 (fun b => (rnone 83 ++ (rundef 14 ++ ([some (.bool b)] ++ (rnone 41))))) rfl
 ·
  intro hg83 hY83
  refine v139 rfl ?_
  iterate 4 refine wS (wanted_f 83 (by kernel_rfl) rfl) (v139 rfl ?_)
  iterate 4 refine wS (wanted_k 87 (by kernel_rfl) rfl) (v139 rfl ?_)
  iterate 3 refine wS (wanted_k 91 (by kernel_rfl) rfl) (v139 rfl ?_)
  refine wS (wanted_k 87 (by kernel_rfl) rfl) (v139 rfl ?_)
  refine wS (wanted_f 83 (by kernel_rfl) rfl) (v139 rfl ?_)
  refine wN rfl rfl rfl (v139 rfl ?_)
  refine hY83 _ ?_
  repeat' first | exact trivial | refine ⟨.inr rfl, ?_⟩ | refine ⟨.inl rfl, ?_⟩ | fail
 ·
  intro hg83 hY83
  refine v139 rfl ?_
  refine wN (v := .ptr 1 0 2) (wanted_t 83 (by kernel_rfl) rfl) rfl rfl (v139 rfl ?_)
  iterate 3 refine wN (wanted_t 83 (by kernel_rfl) rfl) rfl rfl (v139 rfl ?_)
  apply w_and 9 87 (fun b => (rnone 87 ++ (rundef 9 ++ ([some (.bool b)] ++ (rnone 42))))) rfl
  ·
   intro hg87 hY87
   refine v139 rfl ?_
   refine wN (v := .ptr 0 0 6) (wanted_t 87 (by kernel_rfl) rfl) rfl rfl (v139 rfl ?_)
   iterate 3 refine wN (wanted_t 87 (by kernel_rfl) rfl) rfl rfl (v139 rfl ?_)
   apply w_or 4 91 (fun b => (rnone 91 ++ (rundef 4 ++ ([some (.bool b)] ++ (rnone 43))))) rfl
   ·
    intro hg91 hY91
    refine v139 rfl ?_
    iterate 3 refine wS (wanted_f 91 (by kernel_rfl) rfl) (v139 rfl ?_)
    refine wN (wanted_t 87 (by kernel_rfl) rfl) rfl rfl (v139 rfl ?_)
    refine hY91 _ ?_
    repeat' first | exact trivial | refine ⟨.inr rfl, ?_⟩ | refine ⟨.inl rfl, ?_⟩ | fail
   ·
    intro hg91 hY91
    refine v139 rfl ?_
    refine wN (v := .ptr 0 0 7) (wanted_t 91 (by kernel_rfl) rfl) rfl rfl (v139 rfl ?_)
    iterate 2 refine wN (wanted_t 91 (by kernel_rfl) rfl) rfl rfl (v139 rfl ?_)
    refine wN (wanted_t 87 (by kernel_rfl) rfl) rfl rfl (v139 rfl ?_)
    refine hY91 _ ?_
    repeat' first | exact trivial | refine ⟨.inr rfl, ?_⟩ | refine ⟨.inl rfl, ?_⟩ | fail
   refine v139 rfl ?_
   refine wN (wanted_t 83 (by kernel_rfl) rfl) rfl rfl (v139 rfl ?_)
   refine hY87 _ ?_
   repeat' first | exact trivial | refine ⟨.inr rfl, ?_⟩ | refine ⟨.inl rfl, ?_⟩ | fail
  ·
   intro hg87 hY87
   refine v139 rfl ?_
   iterate 4 refine wS (wanted_f 87 (by kernel_rfl) rfl) (v139 rfl ?_)
   iterate 3 refine wS (wanted_k 91 (by kernel_rfl) rfl) (v139 rfl ?_)
   refine wS (wanted_f 87 (by kernel_rfl) rfl) (v139 rfl ?_)
   refine wN (wanted_t 83 (by kernel_rfl) rfl) rfl rfl (v139 rfl ?_)
   refine hY87 _ ?_
   repeat' first | exact trivial | refine ⟨.inr rfl, ?_⟩ | refine ⟨.inl rfl, ?_⟩ | fail
  refine v139 rfl ?_
  refine wN rfl rfl rfl (v139 rfl ?_)
  refine hY83 _ ?_
  repeat' first | exact trivial | refine ⟨.inr rfl, ?_⟩ | refine ⟨.inl rfl, ?_⟩ | fail
 refine v139 rfl ?_
 refine we rfl ?_
 refine vc_cond rfl (fun hc97 => ?_) (fun hc97 => ?_)
 ·
  refine vs (wr ?_)
  refine wN rfl rfl rfl (v139 rfl ?_)
  refine we rfl (vc_ret (r_then (r_fn rfl ?_)))
  have hb : bad3 f r = true := hc97
  show some (AV.bool false) = some (AV.bool (validP r))
  simp [hV, hb]
 refine vc_skip (n_then (vs (vs (wr ?_))))
 refine wN (v := .ptr 1 0 4) rfl rfl rfl (v139 rfl ?_)
 iterate 2 refine wN rfl rfl rfl (v139 rfl ?_)
 apply w_and 10 100 (fun b => (rnone 100 ++ (rundef 10 ++ ([some (.bool b)] ++ (rnone 28))))) rfl
 ·
  intro hg100 hY100
  refine v139 rfl ?_
  refine wN (v := .ptr 0 0 9) (wanted_t 100 (by kernel_rfl) rfl) rfl rfl (v139 rfl ?_)
  refine wN (wanted_t 100 (by kernel_rfl) rfl) rfl rfl (v139 rfl ?_)
  refine w_callI (env' := _) (wanted_t 100 (by kernel_rfl) rfl) rfl rfl (by kernel_rfl) rfl (by repeat' first | exact IsL.lend ‹_› | exact IsL.lend0 ‹_› | refine mapL_cons ?_ ?_ | refine lend_agg ?_ | rfl) (hareopen) rfl (v139 rfl ?_)
  iterate 2 refine wN (wanted_t 100 (by kernel_rfl) rfl) rfl rfl (v139 rfl ?_)
  apply w_or 4 105 (fun b => (rnone 105 ++ (rundef 4 ++ ([some (.bool b)] ++ (rnone 29))))) rfl
  ·
   intro hg105 hY105
   refine v139 rfl ?_
   iterate 3 refine wS (wanted_f 105 (by kernel_rfl) rfl) (v139 rfl ?_)
   refine wN (wanted_t 100 (by kernel_rfl) rfl) rfl rfl (v139 rfl ?_)
   refine hY105 _ ?_
   repeat' first | exact trivial | refine ⟨.inr rfl, ?_⟩ | refine ⟨.inl rfl, ?_⟩ | fail
  ·
   intro hg105 hY105
   refine v139 rfl ?_
   refine wN (v := .ptr 0 0 1) (wanted_t 105 (by kernel_rfl) rfl) rfl rfl (v139 rfl ?_)
   iterate 2 refine wN (wanted_t 105 (by kernel_rfl) rfl) rfl rfl (v139 rfl ?_)
   refine wN (wanted_t 100 (by kernel_rfl) rfl) rfl rfl (v139 rfl ?_)
   refine hY105 _ ?_
   repeat' first | exact trivial | refine ⟨.inr rfl, ?_⟩ | refine ⟨.inl rfl, ?_⟩ | fail
  refine v139 rfl ?_
  refine wN rfl rfl rfl (v139 rfl ?_)
  refine hY100 _ ?_
  repeat' first | exact trivial | refine ⟨.inr rfl, ?_⟩ | refine ⟨.inl rfl, ?_⟩ | fail
 ·
  intro hg100 hY100
  refine v139 rfl ?_
  iterate 5 refine wS (wanted_f 100 (by kernel_rfl) rfl) (v139 rfl ?_)
  iterate 3 refine wS (wanted_k 105 (by kernel_rfl) rfl) (v139 rfl ?_)
  refine wS (wanted_f 100 (by kernel_rfl) rfl) (v139 rfl ?_)
  refine wN rfl rfl rfl (v139 rfl ?_)
  refine hY100 _ ?_
  repeat' first | exact trivial | refine ⟨.inr rfl, ?_⟩ | refine ⟨.inl rfl, ?_⟩ | fail
 refine v139 rfl ?_
 refine wN rfl rfl rfl (v139 rfl ?_)
 apply w_or 10 111 (fun b => (rnone 111 ++ (rundef 10 ++ ([some (.bool b)] ++ (rnone 17))))) rfl
 ·
  intro hg111 hY111
  refine v139 rfl ?_
  iterate 4 refine wS (wanted_f 111 (by kernel_rfl) rfl) (v139 rfl ?_)
  iterate 4 refine wS (wanted_k 115 (by kernel_rfl) rfl) (v139 rfl ?_)
  refine wS (wanted_f 111 (by kernel_rfl) rfl) (v139 rfl ?_)
  refine wN rfl rfl rfl (v139 rfl ?_)
  refine hY111 _ ?_
  repeat' first | exact trivial | refine ⟨.inr rfl, ?_⟩ | refine ⟨.inl rfl, ?_⟩ | fail
 ·
  intro hg111 hY111
  refine v139 rfl ?_
  refine wN (v := .ptr 1 0 4) (wanted_t 111 (by kernel_rfl) rfl) rfl rfl (v139 rfl ?_)
  iterate 3 refine wN (wanted_t 111 (by kernel_rfl) rfl) rfl rfl (v139 rfl ?_)
  apply w_and 5 115 (fun b => (rnone 115 ++ (rundef 5 ++ ([some (.bool b)] ++ (rnone 18))))) rfl
  ·
   intro hg115 hY115
   refine v139 rfl ?_
   refine wN (v := .ptr 0 0 9) (wanted_t 115 (by kernel_rfl) rfl) rfl rfl (v139 rfl ?_)
   refine wN (wanted_t 115 (by kernel_rfl) rfl) rfl rfl (v139 rfl ?_)
   first | refine wN (wanted_t 115 (by kernel_rfl) rfl) rfl rfl (v139 rfl ?_) | refine x_len (wanted_t 115 (by kernel_rfl) rfl) rfl ‹_› Tryz.underlying91 rfl (v139 rfl ?_)
   refine wN (wanted_t 115 (by kernel_rfl) rfl) rfl rfl (v139 rfl ?_)
   refine wN (wanted_t 111 (by kernel_rfl) rfl) rfl rfl (v139 rfl ?_)
   refine hY115 _ ?_
   repeat' first | exact trivial | refine ⟨.inr rfl, ?_⟩ | refine ⟨.inl rfl, ?_⟩ | fail
  ·
   intro hg115 hY115
   refine v139 rfl ?_
   iterate 4 refine wS (wanted_f 115 (by kernel_rfl) rfl) (v139 rfl ?_)
   refine wN (wanted_t 111 (by kernel_rfl) rfl) rfl rfl (v139 rfl ?_)
   refine hY115 _ ?_
   repeat' first | exact trivial | refine ⟨.inr rfl, ?_⟩ | refine ⟨.inl rfl, ?_⟩ | fail
  refine v139 rfl ?_
  refine wN rfl rfl rfl (v139 rfl ?_)
  refine hY111 _ ?_
  repeat' first | exact trivial | refine ⟨.inr rfl, ?_⟩ | refine ⟨.inl rfl, ?_⟩ | fail
 refine v139 rfl ?_
 refine we rfl ?_
 refine vc_cond rfl (fun hc121 => ?_) (fun hc121 => ?_)
 ·
  refine vs (wr ?_)
  refine wN rfl rfl rfl (v139 rfl ?_)
  refine we rfl (vc_ret (r_then (r_fn rfl ?_)))
  have hb : bad4 f r = true := (by rw [bad4, ← hol]; exact hc121)
  show some (AV.bool false) = some (AV.bool (validP r))
  simp [hV, hb]
 refine vc_skip (n_then (vs (vs (wr ?_))))
 refine wN (v := .ptr 0 0 0) rfl rfl rfl (v139 rfl ?_)
 refine wN rfl rfl rfl (v139 rfl ?_)
 refine we rfl (vc_block (vs (wr ?_)))
 iterate 2 refine wN rfl rfl rfl (v139 rfl ?_)
 refine we rfl ?_
 refine vc_cond rfl (fun hc124 => ?_) (fun hc124 => ?_)
 ·
  refine vs (wr ?_)
  refine wN (v := .ptr 0 0 8) rfl rfl rfl (v139 rfl ?_)
  iterate 2 refine wN rfl rfl rfl (v139 rfl ?_)
  refine w_callI (env' := _) rfl rfl rfl (by kernel_rfl) rfl (by repeat' first | exact IsL.lend ‹_› | exact IsL.lend0 ‹_› | refine mapL_cons ?_ ?_ | refine lend_agg ?_ | rfl) (sWithin G 1 r.text.size 30) rfl (v139 rfl ?_)
  refine wN rfl rfl rfl (v139 rfl ?_)
  refine we rfl (vc_ret (r_block (r_then (r_fn rfl ?_))))
  have hv : (!(!ok || !within 0 r.unit 1000000) && !bad1 f r && !bad2 f r && !bad3 f r && !bad4 f r) = true := by
   rw [show bad1 f r = false from hc46, show bad2 f r = false from hc68, show bad3 f r = false from hc97, show bad4 f r = false from (by rw [bad4, ← hol]; exact hc121)]
   simp [show (!ok || !within 0 r.unit 1000000) = false from hc18]
  show some (AV.bool _) = some (AV.bool (validP r))
  rw [hV, hv, textOk, if_pos hc124]
  rfl
 refine vs (wr ?_)
 iterate 2 refine wN rfl rfl rfl (v139 rfl ?_)
 refine we rfl ?_
 refine vc_cond rfl (fun hc130 => ?_) (fun hc130 => ?_)
 ·
  refine vs (wr ?_)
  refine wN (v := .ptr 0 0 8) rfl rfl rfl (v139 rfl ?_)
  iterate 4 refine wN rfl rfl rfl (v139 rfl ?_)
  refine we rfl (vc_ret (r_block (r_then (r_fn rfl ?_))))
  have hv : (!(!ok || !within 0 r.unit 1000000) && !bad1 f r && !bad2 f r && !bad3 f r && !bad4 f r) = true := by
   rw [show bad1 f r = false from hc46, show bad2 f r = false from hc68, show bad3 f r = false from hc97, show bad4 f r = false from (by rw [bad4, ← hol]; exact hc121)]
   simp [show (!ok || !within 0 r.unit 1000000) = false from hc18]
  show some (AV.bool _) = some (AV.bool (validP r))
  rw [hV, hv, textOk, if_neg (by rw [hc124]; decide), if_pos hc130]
  rfl
 refine vc_skip (n_block (n_then (vs (wr ?_))))
 refine wN (v := .ptr 0 0 8) rfl rfl rfl (v139 rfl ?_)
 iterate 3 refine wN rfl rfl rfl (v139 rfl ?_)
 refine we rfl (vc_ret (r_fn rfl ?_))
 have hv : (!(!ok || !within 0 r.unit 1000000) && !bad1 f r && !bad2 f r && !bad3 f r && !bad4 f r) = true := by
  rw [show bad1 f r = false from hc46, show bad2 f r = false from hc68, show bad3 f r = false from hc97, show bad4 f r = false from (by rw [bad4, ← hol]; exact hc121)]
  simp [show (!ok || !within 0 r.unit 1000000) = false from hc18]
 show some (AV.bool _) = some (AV.bool (validP r))
 rw [hV, hv, textOk, if_neg (by rw [hc124]; decide), if_neg (by rw [hc130]; decide)]
 rfl
end Go.Vi
namespace Go.Vi
open Go Go.Vi Go.Proofs
attribute [local irreducible] vops vopsD vc
theorem el43 : elemAt Tryz.prog 43 = some (none, 93, 10) := by kernel_rfl
theorem st140 : isStruct Tryz.prog 140 = true := by kernel_rfl
theorem sh140 : Tryz.prog.stoodInHeld 140 = false := by kernel_rfl
theorem eg140 : Tryz.prog.eqGuardType Tryz.prog.depth 140 = false := by kernel_rfl
theorem ec140 (a c : Ro) : eqCells Tryz.prog [.int .i64 a.unit, .int .i64 a.next, .str a.ready] [.int .i64 c.unit, .int .i64 c.next, .str c.ready] (Tryz.prog.fieldsOf 140).toList = some (Ro.same a c) := by kernel_rfl
theorem open_ne {H : Hp} (a c : Ro) : (orX (vbin Tryz.prog .neq 140 (.agg [.int .i64 a.unit, .int .i64 a.next, .str a.ready]) (.agg [.int .i64 c.unit, .int .i64 c.next, .str c.ready])) (vbinX Tryz.prog .neq 140 (.agg [.int .i64 a.unit, .int .i64 a.next, .str a.ready]) (.agg [.int .i64 c.unit, .int .i64 c.next, .str c.ready]))).map (·, H) = some (.bool (!Ro.same a c), H) := by
 have h1 : vbin Tryz.prog .neq 140 (.agg [.int .i64 a.unit, .int .i64 a.next, .str a.ready]) (.agg [.int .i64 c.unit, .int .i64 c.next, .str c.ready]) = none := by
  simp only [vbin, veqNil, Tryz.underlying140, Option.map_none]
 have h2 : veqAgg Tryz.prog 140 (.agg [.int .i64 a.unit, .int .i64 a.next, .str a.ready]) (.agg [.int .i64 c.unit, .int .i64 c.next, .str c.ready]) = some (Ro.same a c) := by
  simp only [veqAgg, st140, sh140, eg140, and_self, if_true, ec140]
 have h3 : vsame Tryz.prog 140 (.agg [.int .i64 a.unit, .int .i64 a.next, .str a.ready]) (.agg [.int .i64 c.unit, .int .i64 c.next, .str c.ready]) = none := by
  simp only [vsame, Tryz.underlying140]
 rw [h1]
 simp only [orX, vbinX, h3, orB, h2]
 rfl
set_option maxHeartbeats 4000000 in
theorem sEqual (G : Glob) (x y : AV) (hx : IsL x) (hy : IsL y) (hbx : ∀ q ∈ lrows x, ∃ v, q = [.int .u8 v]) (hby : ∀ q ∈ lrows y, ∃ v, q = [.int .u8 v]) : Vi.Fn Tryz.prog G 144 [x, y] (.bool (eqB (lrows x) (lrows y))) := by
 refine fn_body (fun _ => .iso) Tryz.func144 rfl ?_
 refine vc_norm (env' := [_, _, _, _, _, _, _, _, _, _]) (H' := []) rfl rfl ?_
 refine vs (wr ?_)
 refine wN rfl rfl rfl (v10 rfl ?_)
 refine we rfl (vs (wr ?_))
 refine wN rfl rfl rfl (v10 rfl ?_)
 refine wN (v := .str (byteStr (lrows x))) rfl (conv_byt (e := 5) Tryz.underlying68 Tryz.underlying9 Tryz.underlying5 (IsL.rowsOf hx) hbx) rfl (v10 rfl ?_)
 refine wN rfl rfl rfl (v10 rfl ?_)
 refine wN (v := .str (byteStr (lrows y))) rfl (conv_byt (e := 5) Tryz.underlying68 Tryz.underlying9 Tryz.underlying5 (IsL.rowsOf hy) hby) rfl (v10 rfl ?_)
 iterate 2 refine wN rfl rfl rfl (v10 rfl ?_)
 refine we rfl (vc_ret (r_fn rfl ?_))
 rfl
set_option maxHeartbeats 4000000 in
theorem sEqOpens (G : Glob) (x y : AV) (l m : List Ro) (hx : IsL x) (hy : IsL y) (hrx : lrows x = l.map Ro.row) (hry : lrows y = m.map Ro.row) (hlen : l.length < 9223372036854775808) : Vi.Fn Tryz.prog G 147 [x, y] (.bool (sameOpens l m)) := by
 have hxl : (lrows x).length = l.length := by rw [hrx]; simp
 have hyl : (lrows y).length = m.length := by rw [hry]; simp
 refine fn_body (fun _ => .iso) Tryz.func147 rfl ?_
 refine vc_norm (env' := (_ :: _ :: _ :: _ :: _ :: _ :: _ :: _ :: _ :: _ :: _ :: _ :: _ :: _ :: _ :: _ :: _ :: _ :: _ :: _ :: _ :: _ :: _ :: _ :: _ :: _ :: [])) (H' := []) rfl rfl ?_
 refine vs (wr ?_)
 refine wN rfl rfl rfl (v26 rfl ?_)
 refine we rfl (vs (vs (wr ?_)))
 refine wN rfl rfl rfl (v26 rfl ?_)
 first | refine wN rfl rfl rfl (v26 rfl ?_) | refine x_len rfl rfl ‹_› Tryz.underlying91 rfl (v26 rfl ?_)
 refine wN rfl rfl rfl (v26 rfl ?_)
 first | refine wN rfl rfl rfl (v26 rfl ?_) | refine x_len rfl rfl ‹_› Tryz.underlying91 rfl (v26 rfl ?_)
 refine wN rfl rfl rfl (v26 rfl ?_)
 refine we rfl ?_
 refine vc_cond rfl (fun hc10 => ?_) (fun hc10 => ?_)
 ·
  refine vs (wr ?_)
  refine wN rfl rfl rfl (v26 rfl ?_)
  refine we rfl (vc_ret (r_then (r_fn rfl ?_)))
  show some (AV.bool false) = some (AV.bool (sameOpens l m))
  rw [sameOpens, show ((l.length : Int) != m.length) = true from by have := hc10; rw [hxl, hyl] at this; exact this]
  rfl
 have hl : (l.length : Int) = m.length := by have := hc10; rw [hxl, hyl] at this; simpa using this
 refine vc_skip (n_then (vs (vs (wr ?_))))
 refine wN rfl rfl rfl (v26 rfl ?_)
 first | refine wN rfl rfl rfl (v26 rfl ?_) | refine x_len rfl rfl ‹_› Tryz.underlying91 rfl (v26 rfl ?_)
 refine wN rfl rfl rfl (v26 rfl ?_)
 refine we rfl (vc_block ?_)
 refine vc_loopU (α := { i : Nat // (∀ j, j < i → diffAt l m j = false) ∧ i ≤ l.length }) (fun a => (rnone 4 ++ ([some .undef, some .undef] ++ (rnone 7 ++ ([some (.int .i64 (a.1 : Nat))] ++ (rundef 12)))))) (fun a => l.length - a.1) ⟨0, fun j h => by omega, by omega⟩ (by repeat' first | exact trivial | refine ⟨.inr rfl, ?_⟩ | refine ⟨.inl rfl, ?_⟩ | fail) (fun _ => ⟨Nat.zero_le _, (by repeat' first | exact trivial | exact IsL.belowV ‹_› | refine ⟨?_, ?_⟩ | exact IsL.below ‹_› | (simp [valB, leafB, cellsB, IsL.below, *]; done) | (simp [valB, leafB, cellsB, IsL.below, *]; omega) | fail), (by repeat' first | exact trivial | exact IsL.below (by assumption) | refine ⟨?_, ?_⟩ | (simp [leafB]; done))⟩) ?_
 rintro ⟨i, hn, hi⟩ Y0 hY0
 refine vc_norm (env' := (_ :: _ :: _ :: _ :: _ :: _ :: _ :: _ :: _ :: _ :: _ :: _ :: _ :: (.int .i64 (i : Int)) :: _ :: _ :: _ :: _ :: _ :: _ :: _ :: _ :: _ :: _ :: _ :: _ :: [])) (H' := []) rfl rfl ?_
 refine vs (wr ?_)
 refine wN rfl rfl rfl (v26 rfl ?_)
 refine we rfl (vs ?_)
 refine vc_cond rfl (fun hc14 => ?_) (fun hc14 => ?_)
 ·
  have hlt : i < l.length := by have := of_decide_eq_true hc14; omega
  obtain ⟨u, hu⟩ : ∃ u, l[i]? = some u := ⟨_, List.getElem?_eq_getElem hlt⟩
  obtain ⟨v, hv⟩ : ∃ v, m[i]? = some v := ⟨_, List.getElem?_eq_getElem (by omega)⟩
  have hri := open_at hrx hu
  have hrj := open_at hry hv
  refine vc_skip (n_then (vs (vc_block (vs (wr ?_)))))
  iterate 2 refine wN rfl rfl rfl (v26 rfl ?_)
  refine we rfl (vs (w_regionD (by kernel_rfl) ?_))
  iterate 2 refine dN rfl rfl rfl (d26 rfl ?_)
  first | refine dN (v := .iptr _ [_, _, _]) rfl rfl rfl (d26 rfl ?_) | (refine y_index rfl rfl ‹_› rfl el91 (by omega) ‹_› rfl (fun bo => ?_); refine d26 rfl ?_)
  refine dN (v := .agg [_, _, _]) rfl rfl rfl (d26 rfl ?_)
  iterate 2 refine dN rfl rfl rfl (d26 rfl ?_)
  first | refine dN (v := .iptr _ [_, _, _]) rfl rfl rfl (d26 rfl ?_) | (refine y_index rfl rfl ‹_› rfl el91 (by omega) ‹_› rfl (fun bo => ?_); refine d26 rfl ?_)
  refine dN (v := .agg [_, _, _]) rfl rfl rfl (d26 rfl ?_)
  refine dN (v := .bool (!Ro.same u v)) rfl (open_ne u v) rfl (d26 rfl ?_)
  refine d_end rfl ?_
  refine vc_cond rfl (fun hc24 => ?_) (fun hc24 => ?_)
  ·
   refine vs (wr ?_)
   refine wN rfl rfl rfl (v26 rfl ?_)
   refine we rfl (vc_ret (r_block (r_then (r_then (r_block (r_then (r_fn rfl ?_)))))))
   show some (AV.bool false) = some (AV.bool (sameOpens l m))
   rw [sameOpens, range_any_yes (show diffAt l m i = true by simp only [diffAt, hu, hv]; exact hc24) hlt]
   simp
  refine vc_skip (n_block (n_then (wr ?_)))
  iterate 2 refine wN rfl rfl rfl (v26 rfl ?_)
  refine we rfl ?_
  refine hY0 ⟨i + 1, none_upto hn (by simp only [diffAt, hu, hv]; exact hc24), hlt⟩ (by simp only; omega) _ _ _ ?_ rfl
  repeat' first | exact trivial | refine ⟨.inr rfl, ?_⟩ | refine ⟨.inl rfl, ?_⟩ | refine ⟨.inl ?_, ?_⟩ | fail
  all_goals first | exact (int_succ (by omega)).symm
 have hge : l.length ≤ i := by have := of_decide_eq_false hc14; omega
 refine vc_exit (x_then (x_then (x_same (n_then (vs (wr ?_))))))
 refine wN rfl rfl rfl (v26 rfl ?_)
 refine we rfl (vc_ret (r_fn rfl ?_))
 show some (AV.bool true) = some (AV.bool (sameOpens l m))
 rw [sameOpens, range_any_no hn hge]
 simp [hl]
set_option maxHeartbeats 4000000 in
theorem sSameOpens (G : Glob) (x y : AV) (l m : List Ro) (hx : IsL x) (hy : IsL y) (hrx : lrows x = l.map Ro.row) (hry : lrows y = m.map Ro.row) (hlen : l.length < 9223372036854775808) : Vi.Fn Tryz.prog G 121 [x, y] (.bool (sameOpens l m)) := by
 have hxl : (lrows x).length = l.length := by rw [hrx]; simp
 have hyl : (lrows y).length = m.length := by rw [hry]; simp
 refine fn_body (fun _ => .iso) Tryz.func121 rfl ?_
 refine vc_norm (env' := (_ :: _ :: _ :: _ :: _ :: _ :: _ :: _ :: _ :: _ :: _ :: _ :: _ :: _ :: _ :: _ :: _ :: _ :: _ :: _ :: _ :: _ :: _ :: _ :: _ :: _ :: [])) (H' := []) rfl rfl ?_
 refine vs (wr ?_)
 refine wN rfl rfl rfl (v26 rfl ?_)
 refine we rfl (vs (vs (wr ?_)))
 refine wN rfl rfl rfl (v26 rfl ?_)
 first | refine wN rfl rfl rfl (v26 rfl ?_) | refine x_len rfl rfl ‹_› Tryz.underlying91 rfl (v26 rfl ?_)
 refine wN rfl rfl rfl (v26 rfl ?_)
 first | refine wN rfl rfl rfl (v26 rfl ?_) | refine x_len rfl rfl ‹_› Tryz.underlying91 rfl (v26 rfl ?_)
 refine wN rfl rfl rfl (v26 rfl ?_)
 refine we rfl ?_
 refine vc_cond rfl (fun hc10 => ?_) (fun hc10 => ?_)
 ·
  refine vs (wr ?_)
  refine wN rfl rfl rfl (v26 rfl ?_)
  refine we rfl (vc_ret (r_then (r_fn rfl ?_)))
  show some (AV.bool false) = some (AV.bool (sameOpens l m))
  rw [sameOpens, show ((l.length : Int) != m.length) = true from by have := hc10; rw [hxl, hyl] at this; exact this]
  rfl
 have hl : (l.length : Int) = m.length := by have := hc10; rw [hxl, hyl] at this; simpa using this
 refine vc_skip (n_then (vs (vs (wr ?_))))
 refine wN rfl rfl rfl (v26 rfl ?_)
 refine we rfl (vc_block ?_)
 refine vc_loopU (α := { i : Nat // (∀ j, j < i → diffAt l m j = false) ∧ i ≤ l.length }) (fun a => (rnone 4 ++ ([some .undef, some (.int .i64 (a.1 : Nat))] ++ (rnone 5 ++ (rundef 15))))) (fun a => l.length - a.1) ⟨0, fun j h => by omega, by omega⟩ (by repeat' first | exact trivial | refine ⟨.inr rfl, ?_⟩ | refine ⟨.inl rfl, ?_⟩ | fail) (fun _ => ⟨Nat.zero_le _, (by repeat' first | exact trivial | exact IsL.belowV ‹_› | refine ⟨?_, ?_⟩ | exact IsL.below ‹_› | (simp [valB, leafB, cellsB, IsL.below, *]; done) | (simp [valB, leafB, cellsB, IsL.below, *]; omega) | fail), (by repeat' first | exact trivial | exact IsL.below (by assumption) | refine ⟨?_, ?_⟩ | (simp [leafB]; done))⟩) ?_
 rintro ⟨i, hn, hi⟩ Y0 hY0
 refine vc_norm (env' := (_ :: _ :: _ :: _ :: _ :: (.int .i64 (i : Int)) :: _ :: _ :: _ :: _ :: _ :: _ :: _ :: _ :: _ :: _ :: _ :: _ :: _ :: _ :: _ :: _ :: _ :: _ :: _ :: _ :: [])) (H' := []) rfl rfl ?_
 refine vs (vs (wr ?_))
 iterate 2 refine wN rfl rfl rfl (v26 rfl ?_)
 first | refine wN rfl rfl rfl (v26 rfl ?_) | refine x_len rfl rfl ‹_› Tryz.underlying91 rfl (v26 rfl ?_)
 refine wN rfl rfl rfl (v26 rfl ?_)
 refine we rfl ?_
 refine vc_cond rfl (fun hc14 => ?_) (fun hc14 => ?_)
 ·
  have hlt : i < l.length := by have := of_decide_eq_true hc14; omega
  obtain ⟨u, hu⟩ : ∃ u, l[i]? = some u := ⟨_, List.getElem?_eq_getElem hlt⟩
  obtain ⟨v, hv⟩ : ∃ v, m[i]? = some v := ⟨_, List.getElem?_eq_getElem (by omega)⟩
  have hri := open_at hrx hu
  have hrj := open_at hry hv
  refine vc_skip (n_then (vs (vc_block (vs (w_regionD (by kernel_rfl) ?_)))))
  iterate 2 refine dN rfl rfl rfl (d26 rfl ?_)
  first | refine dN (v := .iptr _ [_, _, _]) rfl rfl rfl (d26 rfl ?_) | (refine y_index rfl rfl ‹_› rfl el91 (by omega) ‹_› rfl (fun bo => ?_); refine d26 rfl ?_)
  refine dN (v := .agg [_, _, _]) rfl rfl rfl (d26 rfl ?_)
  iterate 2 refine dN rfl rfl rfl (d26 rfl ?_)
  first | refine dN (v := .iptr _ [_, _, _]) rfl rfl rfl (d26 rfl ?_) | (refine y_index rfl rfl ‹_› rfl el91 (by omega) ‹_› rfl (fun bo => ?_); refine d26 rfl ?_)
  refine dN (v := .agg [_, _, _]) rfl rfl rfl (d26 rfl ?_)
  refine dN (v := .bool (!Ro.same u v)) rfl (open_ne u v) rfl (d26 rfl ?_)
  refine d_end rfl ?_
  refine vc_cond rfl (fun hc25 => ?_) (fun hc25 => ?_)
  ·
   refine vs (wr ?_)
   refine wN rfl rfl rfl (v26 rfl ?_)
   refine we rfl (vc_ret (r_block (r_then (r_then (r_block (r_then (r_fn rfl ?_)))))))
   show some (AV.bool false) = some (AV.bool (sameOpens l m))
   rw [sameOpens, range_any_yes (show diffAt l m i = true by simp only [diffAt, hu, hv]; exact hc25) hlt]
   simp
  refine vc_skip (n_block (n_then (wr ?_)))
  iterate 3 refine wN rfl rfl rfl (v26 rfl ?_)
  refine we rfl ?_
  refine hY0 ⟨i + 1, none_upto hn (by simp only [diffAt, hu, hv]; exact hc25), hlt⟩ (by simp only; omega) _ _ _ ?_ rfl
  repeat' first | exact trivial | refine ⟨.inr rfl, ?_⟩ | refine ⟨.inl rfl, ?_⟩ | refine ⟨.inl ?_, ?_⟩ | fail
  all_goals first | exact (int_succ (by omega)).symm
 have hge : l.length ≤ i := by have := of_decide_eq_false hc14; omega
 refine vc_exit (x_then (x_then (x_same (n_then (vs (wr ?_))))))
 refine wN rfl rfl rfl (v26 rfl ?_)
 refine we rfl (vc_ret (r_fn rfl ?_))
 show some (AV.bool true) = some (AV.bool (sameOpens l m))
 rw [sameOpens, range_any_no hn hge]
 simp [hl]
set_option maxHeartbeats 4000000 in
theorem sLarge1 (G : Glob) (r : Rc) (hr : r.Ok) : Vi.Fn Tryz.prog G 53 [.agg r.row] (.bool (largeRc r)) := by
 have hLb := hr.bef.1
 have hLa := hr.aft.1
 have hLo := hr.opn
 have hbb := hr.bef.2.1
 have hab := hr.aft.2.1
 have hxt := hr.txt
 have hlen := hr.len
 have hol : (lrows r.opn).length = r.opens.length := by rw [hr.rows]; simp
 show Vi.Fn _ _ _ [.agg [.int .i64 r.kind, .int .i64 r.unit, .int .i64 r.page, .int .i64 r.pos, r.bef, r.aft, .int .i64 r.back, .int .i64 r.next, .str r.text, r.opn]] _
 refine fn_body (fun _ => .iso) Tryz.func53 rfl ?_
 refine vc_norm (env' := (_ :: _ :: _ :: _ :: _ :: _ :: _ :: _ :: _ :: _ :: _ :: _ :: _ :: _ :: _ :: _ :: _ :: _ :: _ :: _ :: _ :: _ :: _ :: _ :: _ :: _ :: _ :: _ :: _ :: _ :: _ :: _ :: _ :: _ :: _ :: _ :: _ :: _ :: _ :: _ :: _ :: [])) (H' := []) rfl rfl ?_
 refine vs (wr ?_)
 refine w_opH (v := .ptr 0 0 0) (env' := _) (H2 := [.arr 93 10 [[_, _, _, _, _, _, _, _, _, _]]]) rfl rfl rfl rfl (fun _ h => h) (v41 rfl ?_)
 refine wN rfl rfl rfl (v41 rfl ?_)
 refine we rfl (vs (vs (wr ?_)))
 refine wN rfl rfl rfl (v41 rfl ?_)
 refine we rfl (vc_block ?_)
 refine vc_loopU (α := { i : Nat // (∀ j, j < i → longOpen r.opens j = false) ∧ i ≤ r.opens.length }) (fun a => ([none, none, some .undef, some (.int .i64 (a.1 : Nat))] ++ (rundef 15 ++ (rnone 22)))) (fun a => r.opens.length - a.1) ⟨0, fun j h => by omega, by omega⟩ (by repeat' first | exact trivial | refine ⟨.inr rfl, ?_⟩ | refine ⟨.inl rfl, ?_⟩ | fail) (fun _ => ⟨Nat.zero_le _, (by repeat' first | exact trivial | exact IsL.belowV ‹_› | refine ⟨?_, ?_⟩ | exact IsL.below ‹_› | (simp [valB, leafB, cellsB, IsL.below, *]; done) | (simp [valB, leafB, cellsB, IsL.below, *]; omega) | fail), (by repeat' first | exact trivial | exact IsL.below (by assumption) | refine ⟨?_, ?_⟩ | (simp [leafB]; done))⟩) ?_
 rintro ⟨i, hn, hi⟩ Y0 hY0
 refine vc_norm (env' := (_ :: _ :: _ :: (.int .i64 (i : Int)) :: _ :: _ :: _ :: _ :: _ :: _ :: _ :: _ :: _ :: _ :: _ :: _ :: _ :: _ :: _ :: _ :: _ :: _ :: _ :: _ :: _ :: _ :: _ :: _ :: _ :: _ :: _ :: _ :: _ :: _ :: _ :: _ :: _ :: _ :: _ :: _ :: _ :: [])) (H' := [.arr 93 10 [[_, _, _, _, _, _, _, _, _, _]]]) rfl rfl ?_
 refine vs (vs (wr ?_))
 refine wN rfl rfl rfl (v41 rfl ?_)
 refine wN (v := .ptr 0 0 9) rfl rfl rfl (v41 rfl ?_)
 refine wN rfl rfl rfl (v41 rfl ?_)
 first | refine wN rfl rfl rfl (v41 rfl ?_) | refine x_len rfl rfl ‹_› Tryz.underlying91 rfl (v41 rfl ?_)
 refine wN rfl rfl rfl (v41 rfl ?_)
 refine we rfl ?_
 refine vc_cond rfl (fun hc8 => ?_) (fun hc8 => ?_)
 ·
  have hlt : i < r.opens.length := by have := of_decide_eq_true hc8; omega
  obtain ⟨u, hu⟩ : ∃ u, r.opens[i]? = some u := ⟨_, List.getElem?_eq_getElem hlt⟩
  have hri := open_at hr.rows hu
  refine vc_skip (n_then (vs (vc_block (vs (wr ?_)))))
  refine wN (v := .ptr 0 0 9) rfl rfl rfl (v41 rfl ?_)
  iterate 2 refine wN rfl rfl rfl (v41 rfl ?_)
  first | refine wN (v := .iptr _ [_, _, _]) rfl rfl rfl (v41 rfl ?_) | (refine x_index rfl rfl ‹_› rfl el91 (by omega) ‹_› rfl (fun bo => ?_); refine v41 rfl ?_)
  refine wN (v := .iptr _ [_]) rfl rfl rfl (v41 rfl ?_)
  iterate 3 refine wN rfl rfl rfl (v41 rfl ?_)
  refine we rfl ?_
  refine vc_cond rfl (fun hc18 => ?_) (fun hc18 => ?_)
  ·
   refine vs (wr ?_)
   refine wN rfl rfl rfl (v41 rfl ?_)
   refine we rfl (vc_ret (r_block (r_then (r_then (r_block (r_then (r_fn rfl ?_)))))))
   show some (AV.bool true) = some (AV.bool (largeRc r))
   rw [largeRc, range_any_yes (show longOpen r.opens i = true by simp only [longOpen, hu]; exact hc18) hlt]
   rfl
  refine vc_skip (n_block (n_then (wr ?_)))
  iterate 3 refine wN rfl rfl rfl (v41 rfl ?_)
  refine we rfl ?_
  refine hY0 ⟨i + 1, none_upto hn (by simp only [longOpen, hu]; exact hc18), hlt⟩ (by simp only; omega) _ _ _ ?_ rfl
  repeat' first | exact trivial | refine ⟨.inr rfl, ?_⟩ | refine ⟨.inl rfl, ?_⟩ | refine ⟨.inl ?_, ?_⟩ | fail
  all_goals first | exact (int_succ (by omega)).symm
 have hge : r.opens.length ≤ i := by have := of_decide_eq_false hc8; omega
 refine vc_exit (x_then (x_then (x_same (n_then (vs (wr ?_))))))
 refine wN (v := .ptr 0 0 4) rfl rfl rfl (v41 rfl ?_)
 refine wN rfl rfl rfl (v41 rfl ?_)
 first | refine wN rfl rfl rfl (v41 rfl ?_) | refine x_len rfl rfl ‹_› Tryz.underlying68 rfl (v41 rfl ?_)
 iterate 2 refine wN rfl rfl rfl (v41 rfl ?_)
 apply w_or 5 23 (fun b => (rnone 23 ++ (rundef 5 ++ ([some (.bool b)] ++ (rnone 12))))) rfl
 ·
  intro hg23 hY23
  refine v41 rfl ?_
  iterate 4 refine wS (wanted_f 23 (by kernel_rfl) rfl) (v41 rfl ?_)
  refine wN rfl rfl rfl (v41 rfl ?_)
  refine hY23 _ ?_
  repeat' first | exact trivial | refine ⟨.inr rfl, ?_⟩ | refine ⟨.inl rfl, ?_⟩ | fail
 ·
  intro hg23 hY23
  refine v41 rfl ?_
  refine wN (v := .ptr 0 0 5) (wanted_t 23 (by kernel_rfl) rfl) rfl rfl (v41 rfl ?_)
  refine wN (wanted_t 23 (by kernel_rfl) rfl) rfl rfl (v41 rfl ?_)
  first | refine wN (wanted_t 23 (by kernel_rfl) rfl) rfl rfl (v41 rfl ?_) | refine x_len (wanted_t 23 (by kernel_rfl) rfl) rfl ‹_› Tryz.underlying68 rfl (v41 rfl ?_)
  refine wN (wanted_t 23 (by kernel_rfl) rfl) rfl rfl (v41 rfl ?_)
  refine wN rfl rfl rfl (v41 rfl ?_)
  refine hY23 _ ?_
  repeat' first | exact trivial | refine ⟨.inr rfl, ?_⟩ | refine ⟨.inl rfl, ?_⟩ | fail
 refine v41 rfl ?_
 refine wN rfl rfl rfl (v41 rfl ?_)
 apply w_or 5 29 (fun b => (rnone 29 ++ (rundef 5 ++ ([some (.bool b)] ++ (rnone 6))))) rfl
 ·
  intro hg29 hY29
  refine v41 rfl ?_
  iterate 4 refine wS (wanted_f 29 (by kernel_rfl) rfl) (v41 rfl ?_)
  refine wN rfl rfl rfl (v41 rfl ?_)
  refine hY29 _ ?_
  repeat' first | exact trivial | refine ⟨.inr rfl, ?_⟩ | refine ⟨.inl rfl, ?_⟩ | fail
 ·
  intro hg29 hY29
  refine v41 rfl ?_
  refine wN (v := .ptr 0 0 8) (wanted_t 29 (by kernel_rfl) rfl) rfl rfl (v41 rfl ?_)
  iterate 3 refine wN (wanted_t 29 (by kernel_rfl) rfl) rfl rfl (v41 rfl ?_)
  refine wN rfl rfl rfl (v41 rfl ?_)
  refine hY29 _ ?_
  repeat' first | exact trivial | refine ⟨.inr rfl, ?_⟩ | refine ⟨.inl rfl, ?_⟩ | fail
 refine v41 rfl ?_
 refine wN rfl rfl rfl (v41 rfl ?_)
 apply w_or 5 35 (fun b => (rnone 35 ++ (rundef 5 ++ ([some (.bool b)])))) rfl
 ·
  intro hg35 hY35
  refine v41 rfl ?_
  iterate 4 refine wS (wanted_f 35 (by kernel_rfl) rfl) (v41 rfl ?_)
  refine wN rfl rfl rfl (v41 rfl ?_)
  refine hY35 _ ?_
  repeat' first | exact trivial | refine ⟨.inr rfl, ?_⟩ | refine ⟨.inl rfl, ?_⟩ | fail
 ·
  intro hg35 hY35
  refine v41 rfl ?_
  refine wN (v := .ptr 0 0 9) (wanted_t 35 (by kernel_rfl) rfl) rfl rfl (v41 rfl ?_)
  refine wN (wanted_t 35 (by kernel_rfl) rfl) rfl rfl (v41 rfl ?_)
  first | refine wN (wanted_t 35 (by kernel_rfl) rfl) rfl rfl (v41 rfl ?_) | refine x_len (wanted_t 35 (by kernel_rfl) rfl) rfl ‹_› Tryz.underlying91 rfl (v41 rfl ?_)
  refine wN (wanted_t 35 (by kernel_rfl) rfl) rfl rfl (v41 rfl ?_)
  refine wN rfl rfl rfl (v41 rfl ?_)
  refine hY35 _ ?_
  repeat' first | exact trivial | refine ⟨.inr rfl, ?_⟩ | refine ⟨.inl rfl, ?_⟩ | fail
 refine v41 rfl ?_
 refine wN rfl rfl rfl (v41 rfl ?_)
 refine we rfl (vc_ret (r_fn rfl ?_))
 show some (AV.bool _) = some (AV.bool (largeRc r))
 rw [largeRc, range_any_no hn hge, ← hol]
 rfl
set_option maxHeartbeats 4000000 in
theorem sLarge (G : Glob) (x : AV) (l : List Rc) (hx : Recs x l) : Vi.Fn Tryz.prog G 18 [x] (.bool (large l)) := by
 have hL := hx.isL
 have hxl : (lrows x).length = l.length := by rw [hx.rows]; simp
 have hlen := hx.len
 refine fn_body (fun _ => .iso) Tryz.func18 rfl ?_
 refine vc_norm (env' := [_, _, _, _, _, _, _, _, _, _, _, _, _, _, _, _, _, _]) (H' := []) rfl rfl ?_
 refine vs (wr ?_)
 refine wN rfl rfl rfl (v18 rfl ?_)
 refine we rfl (vs (vs (wr ?_)))
 refine wN rfl rfl rfl (v18 rfl ?_)
 refine we rfl (vc_block ?_)
 refine vc_loopU (α := { i : Nat // (∀ j, j < i → largeAt l j = false) ∧ i ≤ l.length }) (fun a => ([none, none, some .undef, some (.int .i64 (a.1 : Nat))] ++ (rundef 11 ++ ([none, none, none])))) (fun a => l.length - a.1) ⟨0, fun j h => by omega, by omega⟩ (by repeat' first | exact trivial | refine ⟨.inr rfl, ?_⟩ | refine ⟨.inl rfl, ?_⟩ | fail) (fun _ => ⟨Nat.zero_le _, (by repeat' first | exact trivial | exact IsL.belowV ‹_› | refine ⟨?_, ?_⟩ | exact IsL.below ‹_› | (simp [valB, leafB, cellsB, IsL.below, *]; done) | (simp [valB, leafB, cellsB, IsL.below, *]; omega) | fail), (by repeat' first | exact trivial | exact IsL.below (by assumption) | refine ⟨?_, ?_⟩ | (simp [leafB]; done))⟩) ?_
 rintro ⟨i, hn, hi⟩ Y0 hY0
 refine vc_norm (env' := [_, _, _, .int .i64 (i : Int), _, _, _, _, _, _, _, _, _, _, _, _, _, _]) (H' := []) rfl rfl ?_
 refine vs (vs (wr ?_))
 iterate 2 refine wN rfl rfl rfl (v18 rfl ?_)
 first | refine wN rfl rfl rfl (v18 rfl ?_) | refine x_len rfl rfl ‹_› Tryz.underlying43 rfl (v18 rfl ?_)
 refine wN rfl rfl rfl (v18 rfl ?_)
 refine we rfl ?_
 refine vc_cond rfl (fun hc7 => ?_) (fun hc7 => ?_)
 ·
  have hlt : i < l.length := by have := of_decide_eq_true hc7; omega
  obtain ⟨u, hu⟩ : ∃ u, l[i]? = some u := ⟨_, List.getElem?_eq_getElem hlt⟩
  have hri := hx.at hu
  have hOk := hx.ok u (List.mem_of_getElem? hu)
  have hl0 : lend [] (.agg u.row) = some (.agg u.row) := lend_agg (mapL_cons rfl (mapL_cons rfl (mapL_cons rfl (mapL_cons rfl (mapL_cons hOk.bef.1.lend0 (mapL_cons hOk.aft.1.lend0 (mapL_cons rfl (mapL_cons rfl (mapL_cons rfl (mapL_cons hOk.opn.lend0 rfl))))))))))
  refine vc_skip (n_then (vs (vc_block (vs (wr ?_)))))
  iterate 2 refine wN rfl rfl rfl (v18 rfl ?_)
  first | refine wN (v := .iptr _ [_, _, _, _, _, _, _, _, _, _]) rfl rfl rfl (v18 rfl ?_) | (refine x_index rfl rfl ‹_› rfl el43 (by omega) ‹_› rfl (fun bo => ?_); refine v18 rfl ?_)
  refine wN (v := .agg [_, _, _, _, _, _, _, _, _, _]) rfl rfl rfl (v18 rfl ?_)
  refine w_callI (env' := _) rfl rfl rfl (by kernel_rfl) rfl (mapL_cons hl0 rfl) (sLarge1 G u hOk) rfl (v18 rfl ?_)
  refine we rfl ?_
  refine vc_cond rfl (fun hc14 => ?_) (fun hc14 => ?_)
  ·
   refine vs (wr ?_)
   refine wN rfl rfl rfl (v18 rfl ?_)
   refine we rfl (vc_ret (r_block (r_then (r_then (r_block (r_then (r_fn rfl ?_)))))))
   show some (AV.bool true) = some (AV.bool (large l))
   rw [large, range_any_yes (show largeAt l i = true by simp only [largeAt, hu]; exact hc14) hlt]
   rfl
  refine vc_skip (n_block (n_then (wr ?_)))
  iterate 3 refine wN rfl rfl rfl (v18 rfl ?_)
  refine we rfl ?_
  refine hY0 ⟨i + 1, none_upto hn (by simp only [largeAt, hu]; exact hc14), hlt⟩ (by simp only; omega) _ _ _ ?_ rfl
  repeat' first | exact trivial | refine ⟨.inr rfl, ?_⟩ | refine ⟨.inl rfl, ?_⟩ | refine ⟨.inl ?_, ?_⟩ | fail
  all_goals first | exact (int_succ (by omega)).symm
 have hge : l.length ≤ i := by have := of_decide_eq_false hc7; omega
 refine vc_exit (x_then (x_then (x_same (n_then (vs (wr ?_))))))
 refine wN rfl rfl rfl (v18 rfl ?_)
 first | refine wN rfl rfl rfl (v18 rfl ?_) | refine x_len rfl rfl ‹_› Tryz.underlying43 rfl (v18 rfl ?_)
 iterate 2 refine wN rfl rfl rfl (v18 rfl ?_)
 refine we rfl (vc_ret (r_fn rfl ?_))
 show some (AV.bool _) = some (AV.bool (large l))
 rw [large, range_any_no hn hge, hxl]
 rfl
set_option maxHeartbeats 4000000 in
theorem sLays (G : Glob) (r : Rc) (hr : r.Ok) : Vi.Fn Tryz.prog G 63 [.agg r.row] (.bool (laysB r)) := by
 have hLb := hr.bef.1
 have hLa := hr.aft.1
 have hLo := hr.opn
 have hbb := hr.bef.2.1
 have hab := hr.aft.2.1
 have hxt := hr.txt
 have hlen := hr.len
 have hol : (lrows r.opn).length = r.opens.length := by rw [hr.rows]; simp
 show Vi.Fn _ _ _ [.agg [.int .i64 r.kind, .int .i64 r.unit, .int .i64 r.page, .int .i64 r.pos, r.bef, r.aft, .int .i64 r.back, .int .i64 r.next, .str r.text, r.opn]] _
 refine fn_body (fun _ => .iso) Tryz.func63 rfl ?_
 refine vc_norm (env' := [_, _, _, _, _, _, _, _, _, _, _]) (H' := []) rfl rfl ?_
 refine vs (wr ?_)
 refine w_opH (v := .ptr 0 0 0) (env' := _) (H2 := [.arr 93 10 [[_, _, _, _, _, _, _, _, _, _]]]) rfl rfl rfl rfl (fun _ h => h) (v11 rfl ?_)
 refine wN rfl rfl rfl (v11 rfl ?_)
 refine we rfl (vs (wr ?_))
 refine wN (v := .ptr 0 0 0) rfl rfl rfl (v11 rfl ?_)
 iterate 3 refine wN rfl rfl rfl (v11 rfl ?_)
 apply w_or 4 6 (fun b => (rnone 6 ++ (rundef 4 ++ ([some (.bool b)])))) rfl
 ·
  intro hg6 hY6
  refine v11 rfl ?_
  iterate 3 refine wS (wanted_f 6 (by kernel_rfl) rfl) (v11 rfl ?_)
  refine wN rfl rfl rfl (v11 rfl ?_)
  refine hY6 _ ?_
  repeat' first | exact trivial | refine ⟨.inr rfl, ?_⟩ | refine ⟨.inl rfl, ?_⟩ | fail
 ·
  intro hg6 hY6
  refine v11 rfl ?_
  refine wN (v := .ptr 0 0 0) (wanted_t 6 (by kernel_rfl) rfl) rfl rfl (v11 rfl ?_)
  iterate 2 refine wN (wanted_t 6 (by kernel_rfl) rfl) rfl rfl (v11 rfl ?_)
  refine wN rfl rfl rfl (v11 rfl ?_)
  refine hY6 _ ?_
  repeat' first | exact trivial | refine ⟨.inr rfl, ?_⟩ | refine ⟨.inl rfl, ?_⟩ | fail
 refine v11 rfl ?_
 refine wN rfl rfl rfl (v11 rfl ?_)
 refine we rfl (vc_ret (r_fn rfl ?_))
 rfl
set_option maxHeartbeats 4000000 in
theorem sMeetsR (G : Glob) (r q : Rc) (hr : r.Ok) (hq : q.Ok) (h1 : 0 ≤ r.pos ∧ r.pos ≤ 128 ∧ r.na ≤ 128) (h2 : 0 ≤ q.pos ∧ q.pos ≤ 128 ∧ q.na ≤ 128) : Vi.Fn Tryz.prog G 152 [.agg r.row, .agg q.row] (.bool (meetsB r q)) := by
 have hLb := hr.bef.1
 have hLa := hr.aft.1
 have hLo := hr.opn
 have hbb := hr.bef.2.1
 have hab := hr.aft.2.1
 have hxt := hr.txt
 have hlen := hr.len
 have hol : (lrows r.opn).length = r.opens.length := by rw [hr.rows]; simp
 have hLa2 := hq.aft.1
 have hab2 := hq.aft.2.1
 have hn1 : r.na = (lrows r.aft).length := rfl
 have hn2 : q.na = (lrows q.aft).length := rfl
 show Vi.Fn _ _ _ [.agg [.int .i64 r.kind, .int .i64 r.unit, .int .i64 r.page, .int .i64 r.pos, r.bef, r.aft, .int .i64 r.back, .int .i64 r.next, .str r.text, r.opn], .agg [.int .i64 q.kind, .int .i64 q.unit, .int .i64 q.page, .int .i64 q.pos, q.bef, q.aft, .int .i64 q.back, .int .i64 q.next, .str q.text, q.opn]] _
 refine fn_body (fun _ => .iso) Tryz.func152 rfl ?_
 refine vc_norm (env' := (_ :: _ :: _ :: _ :: _ :: _ :: _ :: _ :: _ :: _ :: _ :: _ :: _ :: _ :: _ :: _ :: _ :: _ :: _ :: _ :: _ :: _ :: _ :: _ :: _ :: _ :: _ :: _ :: _ :: _ :: _ :: _ :: [])) (H' := []) rfl rfl ?_
 refine vs (wr ?_)
 refine w_opH (v := .ptr 0 0 0) (env' := _) (H2 := [.arr 93 10 [[_, _, _, _, _, _, _, _, _, _]]]) rfl rfl rfl rfl (fun _ h => h) (v32 rfl ?_)
 refine w_opH (v := .ptr 1 0 0) (env' := _) (H2 := [.arr 93 10 [[_, _, _, _, _, _, _, _, _, _]], .arr 93 10 [[_, _, _, _, _, _, _, _, _, _]]]) rfl rfl rfl rfl (fun _ h => h) (v32 rfl ?_)
 refine wN rfl rfl rfl (v32 rfl ?_)
 refine we rfl (vs (wr ?_))
 refine wN (v := .ptr 0 0 2) rfl rfl rfl (v32 rfl ?_)
 refine wN rfl rfl rfl (v32 rfl ?_)
 refine wN (v := .ptr 1 0 2) rfl rfl rfl (v32 rfl ?_)
 iterate 3 refine wN rfl rfl rfl (v32 rfl ?_)
 apply w_and 10 10 (fun b => (rnone 10 ++ (rundef 10 ++ ([some (.bool b)] ++ (rnone 11))))) rfl
 ·
  intro hg10 hY10
  refine v32 rfl ?_
  refine wN (v := .ptr 0 0 3) (wanted_t 10 (by kernel_rfl) rfl) rfl rfl (v32 rfl ?_)
  refine wN (wanted_t 10 (by kernel_rfl) rfl) rfl rfl (v32 rfl ?_)
  refine wN (v := .ptr 1 0 3) (wanted_t 10 (by kernel_rfl) rfl) rfl rfl (v32 rfl ?_)
  refine wN (wanted_t 10 (by kernel_rfl) rfl) rfl rfl (v32 rfl ?_)
  refine wN (v := .ptr 1 0 5) (wanted_t 10 (by kernel_rfl) rfl) rfl rfl (v32 rfl ?_)
  refine wN (wanted_t 10 (by kernel_rfl) rfl) rfl rfl (v32 rfl ?_)
  first | refine wN (wanted_t 10 (by kernel_rfl) rfl) rfl rfl (v32 rfl ?_) | refine x_len (wanted_t 10 (by kernel_rfl) rfl) rfl ‹_› Tryz.underlying68 rfl (v32 rfl ?_)
  refine wN (v := .int .i64 (q.pos + (q.na : Int))) (wanted_t 10 (by kernel_rfl) rfl) (int_eq (i64_small (by omega) (by omega))) rfl (v32 rfl ?_)
  refine wN (wanted_t 10 (by kernel_rfl) rfl) rfl rfl (v32 rfl ?_)
  refine wN rfl rfl rfl (v32 rfl ?_)
  refine hY10 _ ?_
  repeat' first | exact trivial | refine ⟨.inr rfl, ?_⟩ | refine ⟨.inl rfl, ?_⟩ | fail
 ·
  intro hg10 hY10
  refine v32 rfl ?_
  iterate 9 refine wS (wanted_f 10 (by kernel_rfl) rfl) (v32 rfl ?_)
  refine wN rfl rfl rfl (v32 rfl ?_)
  refine hY10 _ ?_
  repeat' first | exact trivial | refine ⟨.inr rfl, ?_⟩ | refine ⟨.inl rfl, ?_⟩ | fail
 refine v32 rfl ?_
 refine wN rfl rfl rfl (v32 rfl ?_)
 apply w_and 10 21 (fun b => (rnone 21 ++ (rundef 10 ++ ([some (.bool b)])))) rfl
 ·
  intro hg21 hY21
  refine v32 rfl ?_
  refine wN (v := .ptr 1 0 3) (wanted_t 21 (by kernel_rfl) rfl) rfl rfl (v32 rfl ?_)
  refine wN (wanted_t 21 (by kernel_rfl) rfl) rfl rfl (v32 rfl ?_)
  refine wN (v := .ptr 0 0 3) (wanted_t 21 (by kernel_rfl) rfl) rfl rfl (v32 rfl ?_)
  refine wN (wanted_t 21 (by kernel_rfl) rfl) rfl rfl (v32 rfl ?_)
  refine wN (v := .ptr 0 0 5) (wanted_t 21 (by kernel_rfl) rfl) rfl rfl (v32 rfl ?_)
  refine wN (wanted_t 21 (by kernel_rfl) rfl) rfl rfl (v32 rfl ?_)
  first | refine wN (wanted_t 21 (by kernel_rfl) rfl) rfl rfl (v32 rfl ?_) | refine x_len (wanted_t 21 (by kernel_rfl) rfl) rfl ‹_› Tryz.underlying68 rfl (v32 rfl ?_)
  refine wN (v := .int .i64 (r.pos + (r.na : Int))) (wanted_t 21 (by kernel_rfl) rfl) (int_eq (i64_small (by omega) (by omega))) rfl (v32 rfl ?_)
  refine wN (wanted_t 21 (by kernel_rfl) rfl) rfl rfl (v32 rfl ?_)
  refine wN rfl rfl rfl (v32 rfl ?_)
  refine hY21 _ ?_
  repeat' first | exact trivial | refine ⟨.inr rfl, ?_⟩ | refine ⟨.inl rfl, ?_⟩ | fail
 ·
  intro hg21 hY21
  refine v32 rfl ?_
  iterate 9 refine wS (wanted_f 21 (by kernel_rfl) rfl) (v32 rfl ?_)
  refine wN rfl rfl rfl (v32 rfl ?_)
  refine hY21 _ ?_
  repeat' first | exact trivial | refine ⟨.inr rfl, ?_⟩ | refine ⟨.inl rfl, ?_⟩ | fail
 refine v32 rfl ?_
 refine wN rfl rfl rfl (v32 rfl ?_)
 refine we rfl (vc_ret (r_fn rfl ?_))
 rfl
end Go.Vi
namespace Go.Vi
def mget (k : Int) (es : List (Int × AV)) : Option AV := (mfind k es 0).map (·.2)
theorem mfind_shift {k : Int} : ∀ (es : List (Int × AV)) (i : Nat), (mfind k es i).map (·.2) = mget k es
 | [], _ => rfl
 | e :: r, i => by
   unfold mget
   simp only [mfind]
   split
   · rfl
   rw [mfind_shift r (i + 1), mfind_shift r 1]
theorem mget_nil {k : Int} : mget k [] = none := rfl
theorem mget_cons {k : Int} {e : Int × AV} {r : List (Int × AV)} : mget k (e :: r) = if e.1 = k then some e.2 else mget k r := by
 unfold mget
 simp only [mfind]
 split
 · rfl
 exact mfind_shift r 1
theorem mget_mset {k : Int} {v : AV} (j : Int) : ∀ (es : List (Int × AV)), mget j (mset k v es) = if j = k then some v else mget j es
 | [] => by
   simp only [mset, mget_cons, mget_nil]
   by_cases h : j = k
   · simp [h]
   rw [if_neg h, if_neg (fun e => h e.symm)]
 | e :: r => by
   simp only [mset]
   by_cases he : e.1 = k
   · rw [if_pos he, mget_cons, mget_cons]
     by_cases h : j = k
     · simp [h]
     rw [if_neg (fun e => h e.symm), if_neg h, if_neg (fun e2 => h (e2.symm.trans he))]
   rw [if_neg he, mget_cons, mget_cons, mget_mset j r]
   by_cases h : e.1 = j
   · rw [if_pos h, if_pos h, if_neg (fun e => he (h.trans e))]
   rw [if_neg h, if_neg h]
theorem mget_none {k : Int} : ∀ {es : List (Int × AV)}, mget k es = none ↔ k ∉ es.map (·.1)
 | [] => by simp [mget_nil]
 | e :: r => by
   rw [mget_cons]
   have := mget_none (k := k) (es := r)
   by_cases h : e.1 = k
   · simp [h]
   rw [if_neg h, this, List.map_cons, List.mem_cons, not_or]
   exact ⟨fun hn => ⟨fun e => h e.symm, hn⟩, fun hn => hn.2⟩
theorem mget_at {es : List (Int × AV)} (hn : (es.map (·.1)).Nodup) {j : Nat} {k : Int} {v : AV} (h : es[j]? = some (k, v)) : mget k es = some v := by
 induction es generalizing j with
 | nil => cases h
 | cons e r ih =>
   simp only [List.map_cons, List.nodup_cons] at hn
   rw [mget_cons]
   cases j with
   | zero => simp at h; subst h; simp
   | succ j =>
     have h2 : r[j]? = some (k, v) := by simpa using h
     have hm : k ∈ r.map (·.1) := List.mem_map.2 ⟨_, List.mem_of_getElem? h2, rfl⟩
     rw [if_neg (fun e2 => hn.1 (by rw [e2]; exact hm))]
     exact ih hn.2 h2
theorem mset_keys {k : Int} {v : AV} : ∀ {es : List (Int × AV)}, (es.map (·.1)).Nodup → ((mset k v es).map (·.1)).Nodup
 | [], _ => by simp [mset]
 | e :: r, h => by
   simp only [List.map_cons, List.nodup_cons] at h
   simp only [mset]
   split
   · rename_i he
     simp only [List.map_cons, List.nodup_cons]
     exact ⟨he ▸ h.1, h.2⟩
   rename_i he
   simp only [List.map_cons, List.nodup_cons]
   refine ⟨fun hm => ?_, mset_keys h.2⟩
   have : mget e.1 (mset k v r) ≠ none := fun hn => mget_none.1 hn hm
   rw [mget_mset, if_neg he] at this
   exact this (mget_none.2 h.1)
theorem mset_mem {k : Int} {v : AV} : ∀ {es : List (Int × AV)}, ∀ e ∈ mset k v es, e.1 = k ∨ e ∈ es
 | [], e, h => by simp [mset] at h; subst h; exact .inl rfl
 | x :: r, e, h => by
   simp only [mset] at h
   split at h
   · rcases List.mem_cons.1 h with rfl | h
     · exact .inl rfl
     exact .inr (by simp [h])
   rcases List.mem_cons.1 h with rfl | h
   · exact .inr (by simp)
   rcases mset_mem e h with h | h
   · exact .inl h
   exact .inr (by simp [h])
theorem mset_len {k : Int} {v : AV} : ∀ {es : List (Int × AV)}, (mset k v es).length ≤ es.length + 1
 | [] => by simp [mset]
 | x :: r => by
   simp only [mset]
   split
   · simp
   have := mset_len (k := k) (v := v) (es := r)
   simp only [List.length_cons]
   omega
theorem mget_look {P : Program} {H : Hp} {t et : TypeId} {l : Nat} {k : Int} {es : List (Int × AV)} {v : AV} (ht : intMap P t = some et) (hl : H[l]? = some (.map es)) (h : mget k es = some v) : (vlookup P H t (.mapr l) (.int .i64 k) false).map (·, H) = some (v, H) := by
 obtain ⟨⟨j, u⟩, h1, h2⟩ := Option.map_eq_some_iff.1 h
 simp only at h2
 subst h2
 simp only [vlookup, ht, hl, h1]
 rfl
theorem mget_miss {P : Program} {H : Hp} {t et : TypeId} {l : Nat} {k : Int} {es : List (Int × AV)} {z : AV} (ht : intMap P t = some et) (hz : zrOf P et = some z) (hl : H[l]? = some (.map es)) (h : mget k es = none) : (vlookup P H t (.mapr l) (.int .i64 k) false).map (·, H) = some (z, H) := by
 have h1 : mfind k es 0 = none := by
  cases hm : mfind k es 0 with
  | none => rfl
  | some p => simp [mget, hm] at h
 simp only [vlookup, ht, hl, h1, hz]
 rfl
inductive Own where
 | no | world | recs | wins | mp | ms | mu
 | page (k : Int) | unit (k : Int) | left (k : Int)
 deriving DecidableEq
def own1 (own : Nat → Own) (l : Nat) (t : Own) : Nat → Own := fun x => if x = l then t else own x
theorem own1_self {own : Nat → Own} {l : Nat} {t : Own} : own1 own l t l = t := by simp [own1]
theorem own1_ne {own : Nat → Own} {l x : Nat} {t : Own} (h : x ≠ l) : own1 own l t x = own x := by simp [own1, h]
structure Fr (H : Hp) (own : Nat → Own) (H' : Hp) (own' : Nat → Own) : Prop where
 len : H.length ≤ H'.length
 keep : ∀ l, l < H.length → own l = .no → H'[l]? = H[l]?
 own : ∀ l, l < H.length → own' l = own l
theorem Fr.refl (H : Hp) (own : Nat → Own) : Fr H own H own := ⟨Nat.le_refl _, fun _ _ _ => rfl, fun _ _ => rfl⟩
theorem Fr.trans {H1 H2 H3 : Hp} {o1 o2 o3 : Nat → Own} (h : Fr H1 o1 H2 o2) (k : Fr H2 o2 H3 o3) : Fr H1 o1 H3 o3 :=
 ⟨Nat.le_trans h.len k.len, fun l hl ho => (k.keep l (Nat.lt_of_lt_of_le hl h.len) ((h.own l hl).trans ho)).trans (h.keep l hl ho), fun l hl => (k.own l (Nat.lt_of_lt_of_le hl h.len)).trans (h.own l hl)⟩
theorem Fr.app (H g : Hp) (own : Nat → Own) : Fr H own (H ++ g) own :=
 ⟨by simp, fun l hl _ => List.getElem?_append_left hl, fun _ _ => rfl⟩
theorem Fr.set {H : Hp} {own : Nat → Own} {l : Nat} {o : VO} (h : own l ≠ .no) : Fr H own (H.set l o) own :=
 ⟨by simp, fun x _ hx => List.getElem?_set_ne (fun e => h (by rw [e]; exact hx)), fun _ _ => rfl⟩
structure Un where
 stands : Int
 left : List Int
 ready : ByteArray
 seen : Bool
def Un.new : Un := ⟨0, [], ⟨#[]⟩, false⟩
structure St where
 recs : List Rc
 page : Int → List (List AV)
 stamp : Int → Int
 unit : Int → Un
def z128 : List (List AV) := List.replicate 128 [.int .u8 0]
def St.new : St := ⟨[], fun _ => z128, fun _ => 0, fun _ => Un.new⟩
def fset {α : Type} (f : Int → α) (k : Int) (v : α) : Int → α := fun x => if x = k then v else f x
theorem fset_self {α : Type} {f : Int → α} {k : Int} {v : α} : fset f k v k = v := by simp [fset]
theorem fset_ne {α : Type} {f : Int → α} {k x : Int} {v : α} (h : x ≠ k) : fset f k v x = f x := by simp [fset, h]
def GrowIs (H : Hp) (own : Nat → Own) (tag : Own) (T : TypeId) (sz : Nat) (v : AV) (rows : List (List AV)) : Prop :=
 (v = .nils ∧ rows = []) ∨ ∃ L rows0, v = .row false L 0 rows.length ∧ own L = tag ∧ H[L]? = some (.arr T sz rows0) ∧ rows0.take rows.length = rows
def iRow (k : Int) : List AV := [.int .i64 k]
structure Pst where
 lw : Nat
 lp : Nat
 ls : Nat
 lu : Nat
 rv : AV
 wv : AV
 ep : List (Int × AV)
 es : List (Int × AV)
 eu : List (Int × AV)
structure UnIs (H : Hp) (own : Nat → Own) (k : Int) (l : Nat) (lv : AV) (u : Un) : Prop where
 obj : H[l]? = some (.arr 194 4 [[.int .i64 u.stands, lv, .str u.ready, .bool u.seen]])
 left : GrowIs H own (.left k) 3 1 lv (u.left.map iRow)
structure WRep (H : Hp) (w : Pst) (s : St) (own : Nat → Own) : Prop where
 fresh : ∀ l, H.length ≤ l → own l = .no
 wo : own w.lw = .world
 po : own w.lp = .mp
 so : own w.ls = .ms
 uo : own w.lu = .mu
 wh : H[w.lw]? = some (.arr 191 5 [[w.rv, .mapr w.lp, .mapr w.ls, .mapr w.lu, w.wv]])
 rh : GrowIs H own .recs 93 10 w.rv (s.recs.map Rc.row)
 vh : ∃ rows, GrowIs H own .wins 3 1 w.wv rows
 ph : H[w.lp]? = some (.map w.ep)
 sh : H[w.ls]? = some (.map w.es)
 uh : H[w.lu]? = some (.map w.eu)
 pg : ∀ k, (mget k w.ep = none ∧ s.page k = z128) ∨ ∃ l, mget k w.ep = some (.row true l 0 128) ∧ own l = .page k ∧ H[l]? = some (.arr 5 1 (s.page k))
 st : ∀ k, (mget k w.es = none ∧ s.stamp k = 0) ∨ mget k w.es = some (.int .i64 (s.stamp k))
 un : ∀ k, (mget k w.eu = none ∧ s.unit k = Un.new) ∨ ∃ l lv, mget k w.eu = some (.ptr l 0 0) ∧ own l = .unit k ∧ UnIs H own k l lv (s.unit k)
 nd : (w.eu.map (·.1)).Nodup
 plen : ∀ k, (s.page k).length = 128
 pby : ∀ k, ∀ q ∈ s.page k, ∃ v, q = [.int .u8 v]
 rok : ∀ r ∈ s.recs, r.Ok
theorem lt_of {H : Hp} {l : Nat} {o : VO} (h : H[l]? = some o) : l < H.length := (List.getElem?_eq_some_iff.1 h).1
structure Same (tags : Own → Prop) (H : Hp) (own : Nat → Own) (H' : Hp) (own' : Nat → Own) : Prop where
 len : H.length ≤ H'.length
 keep : ∀ l, l < H.length → ¬ tags (own l) → H'[l]? = H[l]?
 own : ∀ l, l < H.length → own' l = own l
variable {H H' : Hp} {w : Pst} {s : St} {own own' : Nat → Own} {tags : Own → Prop}
theorem Same.at (h : Same tags H own H' own') {l : Nat} {o : VO} {t : Own} (ho : own l = t) (ht : ¬ tags t) (hl : H[l]? = some o) : own' l = t ∧ H'[l]? = some o := by
 have hlt := lt_of hl
 exact ⟨(h.own l hlt).trans ho, (h.keep l hlt (by rw [ho]; exact ht)).trans hl⟩
theorem Same.grow (h : Same tags H own H' own') {tag : Own} {T sz : Nat} {v : AV} {rows : List (List AV)} (ht : ¬ tags tag) (hg : GrowIs H own tag T sz v rows) : GrowIs H' own' tag T sz v rows := by
 rcases hg with hg | ⟨L, rows0, h1, h2, h3, h4⟩
 · exact .inl hg
 obtain ⟨a, b⟩ := h.at h2 ht h3
 exact .inr ⟨L, rows0, h1, a, b, h4⟩
theorem Same.un (h : Same tags H own H' own') {k : Int} {l : Nat} {lv : AV} {u : Un} (ho : own l = .unit k) (h1 : ¬ tags (.unit k)) (h2 : ¬ tags (.left k)) (hu : UnIs H own k l lv u) : own' l = .unit k ∧ UnIs H' own' k l lv u := by
 obtain ⟨a, b⟩ := h.at ho h1 hu.obj
 exact ⟨a, b, h.grow h2 hu.left⟩
theorem Same.fr (h : Same tags H own H' own') (hn : ¬ tags .no) : Fr H own H' own' := ⟨h.len, fun l hl ho => h.keep l hl (by rw [ho]; exact hn), h.own⟩
theorem Same.app (g : Hp) (o : VO) (t : Own) : Same (fun _ => False) H own (H ++ [o]) (own1 own H.length t) :=
 ⟨by simp, fun l hl _ => List.getElem?_append_left hl, fun l hl => own1_ne (by omega)⟩
theorem Same.set {l : Nat} {o : VO} : Same (fun t => t = own l) H own (H.set l o) own :=
 ⟨by simp, fun x _ hx => List.getElem?_set_ne (fun e => hx (by rw [e])), fun _ _ => rfl⟩
theorem WRep.frame (hW : WRep H w s own) (h : Same (fun t => t = .no) H own H' own) (hf : ∀ l, H'.length ≤ l → own l = .no) : WRep H' w s own where
 fresh := hf
 wo := hW.wo
 po := hW.po
 so := hW.so
 uo := hW.uo
 wh := (h.at hW.wo (by simp) hW.wh).2
 rh := h.grow (by simp) hW.rh
 vh := let ⟨rows, hv⟩ := hW.vh; ⟨rows, h.grow (by simp) hv⟩
 ph := (h.at hW.po (by simp) hW.ph).2
 sh := (h.at hW.so (by simp) hW.sh).2
 uh := (h.at hW.uo (by simp) hW.uh).2
 pg k := (hW.pg k).imp id fun ⟨l, h1, h2, h3⟩ => ⟨l, h1, h2, (h.at h2 (by simp) h3).2⟩
 st := hW.st
 un k := (hW.un k).imp id fun ⟨l, lv, h1, h2, h3⟩ => ⟨l, lv, h1, h2, (h.un h2 (by simp) (by simp) h3).2⟩
 nd := hW.nd
 plen := hW.plen
 pby := hW.pby
 rok := hW.rok
theorem WRep.app (hW : WRep H w s own) (g : Hp) : WRep (H ++ g) w s own :=
 hW.frame ⟨by simp, fun l hl _ => List.getElem?_append_left hl, fun _ _ => rfl⟩ fun l hl => hW.fresh l (by simp at hl; omega)
theorem WRep.set (hW : WRep H w s own) {l : Nat} {o : VO} (hl : own l = .no) : WRep (H.set l o) w s own :=
 hW.frame ⟨by simp, fun x _ hx => List.getElem?_set_ne (fun e => hx (by rw [← e]; exact hl)), fun _ _ => rfl⟩ fun x hx => hW.fresh x (by simpa using hx)
theorem WRep.no (hW : WRep H w s own) : own H.length = .no := hW.fresh _ (Nat.le_refl _)
theorem g_makeMap {n : Nat} (hn : H.length = n) : vmakeMap H none = some (.mapr n, H ++ [.map []]) := by subst hn; rfl
theorem g_box {n : Nat} {t : TypeId} {x : AV} {cs : List AV} (hc : x.cells = some cs) (hn : H.length = n) : vbox H t x = some (.ptr n 0 0, H ++ [.arr t cs.length [cs]]) := by
 subst hn; simp only [vbox, hc]
theorem g_mapUpdate {P : Program} {t et : TypeId} {l : Nat} {k : Int} {v : AV} {es : List (Int × AV)} (ht : intMap P t = some et) (hl : H[l]? = some (.map es)) : (vmapUpdate P H t (.mapr l) (.int .i64 k) v).map (AV.tup [], ·) = some (AV.tup [], H.set l (.map (mset k v es))) := by
 simp only [vmapUpdate, ht, hl]
 rfl
theorem g_range {P : Program} {t et : TypeId} {l n : Nat} {es : List (Int × AV)} (ht : intMap P t = some et) (hl : H[l]? = some (.map es)) (hn : H.length = n) : vrange P H t (.mapr l) = some (.ptr n 0 0, H ++ [.iter l es.length []]) := by
 subst hn; simp only [vrange, ht, hl]
def newOwn (n : Nat) (l : Nat) : Own := if l = n then .mp else if l = n + 1 then .ms else if l = n + 2 then .mu else if l = n + 3 then .world else .no
def newPst (n : Nat) : Pst := ⟨n + 3, n, n + 1, n + 2, .nils, .nils, [], [], []⟩
def newH (H : Hp) (n : Nat) : Hp := H ++ [.map []] ++ [.map []] ++ [.map []] ++ [.arr 191 5 [[.nils, .mapr n, .mapr (n + 1), .mapr (n + 2), .nils]]]
theorem z128_byt : ∀ q ∈ z128, ∃ v, q = [AV.int .u8 v] := fun q hq => ⟨0, List.eq_of_mem_replicate hq⟩
theorem WRep.new {n : Nat} (hn : H.length = n) : WRep (newH H n) (newPst n) St.new (newOwn n) := by
 subst hn
 have h0 : (newH H H.length)[H.length]? = some (.map []) := by simp [newH]
 have h1 : (newH H H.length)[H.length + 1]? = some (.map []) := by simp [newH]
 have h2 : (newH H H.length)[H.length + 2]? = some (.map []) := by simp [newH]
 have h3 : (newH H H.length)[H.length + 3]? = some (.arr 191 5 [[.nils, .mapr H.length, .mapr (H.length + 1), .mapr (H.length + 2), .nils]]) := by simp [newH]
 refine ⟨fun l hl => ?_, by simp [newOwn, newPst], by simp [newOwn, newPst], by simp [newOwn, newPst], by simp [newOwn, newPst], h3, .inl ⟨rfl, rfl⟩, ⟨[], .inl ⟨rfl, rfl⟩⟩, h0, h1, h2, fun k => .inl ⟨rfl, rfl⟩, fun k => .inl ⟨rfl, rfl⟩, fun k => .inl ⟨rfl, rfl⟩, List.nodup_nil, fun k => rfl, fun k => z128_byt, fun r hr => by cases hr⟩
 have : H.length + 4 ≤ l := by simpa [newH] using hl
 unfold newOwn
 rw [if_neg (by omega), if_neg (by omega), if_neg (by omega), if_neg (by omega)]
theorem newOwn_old {n l : Nat} (h : l < n) : newOwn n l = .no := by
 unfold newOwn
 rw [if_neg (by omega), if_neg (by omega), if_neg (by omega), if_neg (by omega)]
theorem newH_old {n l : Nat} (hn : H.length = n) (h : l < n) : (newH H n)[l]? = H[l]? := by
 subst hn
 unfold newH
 rw [List.getElem?_append_left (by simp; omega), List.getElem?_append_left (by simp; omega), List.getElem?_append_left (by simp; omega), List.getElem?_append_left h]
def pageH (H : Hp) (w : Pst) (k : Int) : Hp := (H ++ [VO.arr 5 1 z128]).set w.lp (VO.map (mset k (.row true H.length 0 128) w.ep))
theorem same_add (o o' : VO) (t t0 : Own) {l : Nat} (hl : l < H.length) (ho : own l = t0) : Same (fun t => t = t0) H own ((H ++ [o]).set l o') (own1 own H.length t) :=
 ⟨by simp, fun x hx hn => by
  rw [List.getElem?_set_ne (fun e => hn (by rw [← e]; exact ho)), List.getElem?_append_left hx], fun x hx => own1_ne (by omega)⟩
theorem WRep.pageNew (hW : WRep H w s own) {k : Int} (hm : mget k w.ep = none) (hz : s.page k = z128) : WRep (pageH H w k) { w with ep := mset k (.row true H.length 0 128) w.ep } s (own1 own H.length (.page k)) := by
 have hl := lt_of hW.ph
 have h : Same (fun t => t = .mp) H own (pageH H w k) (own1 own H.length (.page k)) := same_add _ _ _ _ hl hW.po
 have hlen : (pageH H w k).length = H.length + 1 := by simp [pageH]
 refine ⟨fun l hl => ?_, (h.own _ (lt_of hW.wh)).trans hW.wo, (h.own _ hl).trans hW.po, (h.own _ (lt_of hW.sh)).trans hW.so, (h.own _ (lt_of hW.uh)).trans hW.uo, (h.at hW.wo (by simp) hW.wh).2, h.grow (by simp) hW.rh, let ⟨rows, hv⟩ := hW.vh; ⟨rows, h.grow (by simp) hv⟩, ?_, (h.at hW.so (by simp) hW.sh).2, (h.at hW.uo (by simp) hW.uh).2, fun j => ?_, hW.st, fun j => (hW.un j).imp id fun ⟨l, lv, h1, h2, h3⟩ => ?_, hW.nd, hW.plen, hW.pby, hW.rok⟩
 · rw [own1_ne (by omega)]; exact hW.fresh l (by omega)
 · exact get_self (by rw [List.getElem?_append_left hl]; exact hW.ph)
 · by_cases hj : j = k
   · subst hj
     refine .inr ⟨H.length, by simp [mget_mset], own1_self, ?_⟩
     rw [hz]
     exact get_set get_last (by omega)
   rcases hW.pg j with ⟨h1, h2⟩ | ⟨l, h1, h2, h3⟩
   · exact .inl ⟨by simp only [mget_mset, if_neg hj]; exact h1, h2⟩
   obtain ⟨a, b⟩ := h.at h2 (by simp) h3
   exact .inr ⟨l, by simp only [mget_mset, if_neg hj]; exact h1, a, b⟩
 obtain ⟨a, b⟩ := h.un h2 (by simp) (by simp) h3
 exact ⟨l, lv, h1, a, b⟩
theorem pageFr (hW : WRep H w s own) {k : Int} : Fr H own (pageH H w k) (own1 own H.length (.page k)) :=
 (same_add (H := H) (own := own) _ _ (.page k) .mp (lt_of hW.ph) hW.po).fr (by simp)
def unitH (H : Hp) (w : Pst) (k : Int) : Hp := (H ++ [VO.arr 194 4 [[.int .i64 0, .nils, .str ⟨#[]⟩, .bool false]]]).set w.lu (VO.map (mset k (.ptr H.length 0 0) w.eu))
theorem WRep.unitNew (hW : WRep H w s own) {k : Int} (hm : mget k w.eu = none) (hz : s.unit k = Un.new) : WRep (unitH H w k) { w with eu := mset k (.ptr H.length 0 0) w.eu } s (own1 own H.length (.unit k)) := by
 have hl := lt_of hW.uh
 have h : Same (fun t => t = .mu) H own (unitH H w k) (own1 own H.length (.unit k)) := same_add _ _ _ _ hl hW.uo
 have hlen : (unitH H w k).length = H.length + 1 := by simp [unitH]
 refine ⟨fun l hl => ?_, (h.own _ (lt_of hW.wh)).trans hW.wo, (h.own _ (lt_of hW.ph)).trans hW.po, (h.own _ (lt_of hW.sh)).trans hW.so, (h.own _ hl).trans hW.uo, (h.at hW.wo (by simp) hW.wh).2, h.grow (by simp) hW.rh, let ⟨rows, hv⟩ := hW.vh; ⟨rows, h.grow (by simp) hv⟩, (h.at hW.po (by simp) hW.ph).2, (h.at hW.so (by simp) hW.sh).2, ?_, fun j => (hW.pg j).imp id fun ⟨l, h1, h2, h3⟩ => ⟨l, h1, h.at h2 (by simp) h3⟩, hW.st, fun j => ?_, mset_keys hW.nd, hW.plen, hW.pby, hW.rok⟩
 · rw [own1_ne (by omega)]; exact hW.fresh l (by omega)
 · exact get_self (by rw [List.getElem?_append_left hl]; exact hW.uh)
 by_cases hj : j = k
 · subst hj
   refine .inr ⟨H.length, .nils, by simp [mget_mset], own1_self, ?_, ?_⟩
   · rw [hz]
     exact get_set get_last (by omega)
   rw [hz]
   exact .inl ⟨rfl, rfl⟩
 rcases hW.un j with ⟨h1, h2⟩ | ⟨l, lv, h1, h2, h3⟩
 · exact .inl ⟨by simp only [mget_mset, if_neg hj]; exact h1, h2⟩
 obtain ⟨a, b⟩ := h.un h2 (by simp) (by simp) h3
 exact .inr ⟨l, lv, by simp only [mget_mset, if_neg hj]; exact h1, a, b⟩
theorem unitFr (hW : WRep H w s own) {k : Int} : Fr H own (unitH H w k) (own1 own H.length (.unit k)) :=
 (same_add (H := H) (own := own) _ _ (.unit k) .mu (lt_of hW.uh) hW.uo).fr (by simp)
def pgLoc (H : Hp) (w : Pst) (k : Int) : Nat := match mget k w.ep with
 | some (.row _ l _ _) => l
 | _ => H.length
def pgH (H : Hp) (w : Pst) (k : Int) : Hp := match mget k w.ep with
 | some _ => H
 | none => pageH H w k
structure PgIs (H : Hp) (w : Pst) (s : St) (own : Nat → Own) (k : Int) (ep : List (Int × AV)) (own' : Nat → Own) : Prop where
 rep : WRep (pgH H w k) { w with ep := ep } s own'
 ow : own' (pgLoc H w k) = .page k
 get : mget k ep = some (.row true (pgLoc H w k) 0 128)
 obj : (pgH H w k)[pgLoc H w k]? = some (.arr 5 1 (s.page k))
 fr : Fr H own (pgH H w k) own'
theorem WRep.pgIs (hW : WRep H w s own) (k : Int) : ∃ ep own', PgIs H w s own k ep own' := by
 rcases hW.pg k with ⟨hm, hz⟩ | ⟨l, hm, ho, hb⟩
 · have e1 : pgLoc H w k = H.length := by simp only [pgLoc, hm]
   have e2 : pgH H w k = pageH H w k := by simp only [pgH, hm]
   refine ⟨mset k (.row true H.length 0 128) w.ep, own1 own H.length (.page k), ?_, ?_, ?_, ?_, ?_⟩
   · rw [e2]; exact hW.pageNew hm hz
   · rw [e1]; exact own1_self
   · rw [e1, mget_mset, if_pos rfl]
   · rw [e1, e2, hz]; exact get_set get_last (by have := lt_of hW.ph; omega)
   rw [e2]; exact pageFr hW
 have e1 : pgLoc H w k = l := by simp only [pgLoc, hm]
 have e2 : pgH H w k = H := by simp only [pgH, hm]
 refine ⟨w.ep, own, ?_, ?_, ?_, ?_, ?_⟩
 · rw [e2]; exact hW
 · rw [e1]; exact ho
 · rw [e1]; exact hm
 · rw [e1, e2]; exact hb
 rw [e2]; exact Fr.refl H own
def layB (pg : List (List AV)) (pos : Nat) (b : List (List AV)) : List (List AV) := pg.take pos ++ b ++ pg.drop (pos + b.length)
theorem layB_length {pg : List (List AV)} {pos : Nat} {b : List (List AV)} (h : pos + b.length ≤ pg.length) : (layB pg pos b).length = pg.length := by
 simp [layB]; omega
theorem layB_byt {pg : List (List AV)} {pos : Nat} {b : List (List AV)} (h1 : ∀ q ∈ pg, ∃ v, q = [AV.int .u8 v]) (h2 : ∀ q ∈ b, ∃ v, q = [AV.int .u8 v]) : ∀ q ∈ layB pg pos b, ∃ v, q = [AV.int .u8 v] := by
 intro q hq
 simp only [layB, List.mem_append] at hq
 rcases hq with (hq | hq) | hq
 · exact h1 q (List.mem_of_mem_take hq)
 · exact h2 q hq
 exact h1 q (List.mem_of_mem_drop hq)
theorem same_set {l : Nat} {o : VO} {t0 : Own} (ho : own l = t0) : Same (fun t => t = t0) H own (H.set l o) own :=
 ⟨by simp, fun x _ hx => List.getElem?_set_ne (fun e => hx (by rw [← e]; exact ho)), fun _ _ => rfl⟩
theorem WRep.pageSet (hW : WRep H w s own) {k : Int} {l : Nat} {b : List (List AV)} (hm : mget k w.ep = some (.row true l 0 128)) (ho : own l = .page k) (hl : l < H.length) (hb : b.length = 128) (hby : ∀ q ∈ b, ∃ v, q = [AV.int .u8 v]) :
 WRep (H.set l (.arr 5 1 b)) w { s with page := fset s.page k b } own := by
 have h : Same (fun t => t = .page k) H own (H.set l (.arr 5 1 b)) own := same_set ho
 refine ⟨fun x hx => hW.fresh x (by simpa using hx), hW.wo, hW.po, hW.so, hW.uo, (h.at hW.wo (by simp) hW.wh).2, h.grow (by simp) hW.rh, let ⟨rows, hv⟩ := hW.vh; ⟨rows, h.grow (by simp) hv⟩, (h.at hW.po (by simp) hW.ph).2, (h.at hW.so (by simp) hW.sh).2, (h.at hW.uo (by simp) hW.uh).2, fun j => ?_, hW.st, fun j => (hW.un j).imp id fun ⟨l, lv, h1, h2, h3⟩ => ⟨l, lv, h1, h.un h2 (by simp) (by simp) h3⟩, hW.nd, fun j => ?_, fun j => ?_, hW.rok⟩
 · by_cases hj : j = k
   · subst hj
     exact .inr ⟨l, hm, ho, by simp only [fset_self]; exact List.getElem?_set_self hl⟩
   simp only [fset_ne hj]
   exact (hW.pg j).imp id fun ⟨l, h1, h2, h3⟩ => ⟨l, h1, h.at h2 (by simp [hj]) h3⟩
 · by_cases hj : j = k
   · subst hj; simp only [fset_self]; exact hb
   simp only [fset_ne hj]; exact hW.plen j
 by_cases hj : j = k
 · subst hj; simp only [fset_self]; exact hby
 simp only [fset_ne hj]; exact hW.pby j
theorem WRep.stampSet (hW : WRep H w s own) {k n : Int} : WRep (H.set w.ls (.map (mset k (.int .i64 n) w.es))) { w with es := mset k (.int .i64 n) w.es } { s with stamp := fset s.stamp k n } own := by
 have h : Same (fun t => t = .ms) H own (H.set w.ls (.map (mset k (.int .i64 n) w.es))) own := same_set hW.so
 refine ⟨fun x hx => hW.fresh x (by simpa using hx), hW.wo, hW.po, hW.so, hW.uo, (h.at hW.wo (by simp) hW.wh).2, h.grow (by simp) hW.rh, let ⟨rows, hv⟩ := hW.vh; ⟨rows, h.grow (by simp) hv⟩, (h.at hW.po (by simp) hW.ph).2, List.getElem?_set_self (lt_of hW.sh), (h.at hW.uo (by simp) hW.uh).2, fun j => (hW.pg j).imp id fun ⟨l, h1, h2, h3⟩ => ⟨l, h1, h.at h2 (by simp) h3⟩, fun j => ?_, fun j => (hW.un j).imp id fun ⟨l, lv, h1, h2, h3⟩ => ⟨l, lv, h1, h.un h2 (by simp) (by simp) h3⟩, hW.nd, hW.plen, hW.pby, hW.rok⟩
 by_cases hj : j = k
 · subst hj
   exact .inr (by simp only [mget_mset, if_pos, fset_self])
 simp only [fset_ne hj, mget_mset, if_neg hj]
 exact hW.st j
def St.lay (s : St) (r : Rc) : St := { s with page := fset s.page r.page (layB (s.page r.page) r.pos.toNat (lrows r.aft)), stamp := fset s.stamp r.page (s.recs.length + 1) }
structure Rc.In (r : Rc) : Prop where
 p0 : 0 ≤ r.pos
 p1 : r.pos + r.na ≤ 128
 g0 : 0 ≤ r.page
 g1 : r.page < 120
 n1 : r.nb ≤ 128
theorem GrowIs.len {P : Program} {T sz t : TypeId} {tag : Own} {v : AV} {rows : List (List AV)} {e : TypeId} (h : GrowIs H own tag T sz v rows) (hu : P.underlying t = some (.slice e)) : (vlen P H t v).map (·, H) = some (.int .i64 rows.length, H) := by
 rcases h with ⟨rfl, rfl⟩ | ⟨L, r0, rfl, _⟩ <;> simp only [vlen, hu] <;> rfl
end Go.Vi
namespace Go.Vi
open Go Go.Vi Go.Proofs
attribute [local irreducible] vops vopsD vc
theorem im187 : intMap Tryz.prog 187 = some 68 := by kernel_rfl
theorem im188 : intMap Tryz.prog 188 = some 3 := by kernel_rfl
theorem im189 : intMap Tryz.prog 189 = some 192 := by kernel_rfl
theorem zr68 : zrOf Tryz.prog 68 = some .nils := by kernel_rfl
theorem zr192 : zrOf Tryz.prog 192 = some .nilp := by kernel_rfl
theorem el68 : elemAt Tryz.prog 68 = some (none, 5, 1) := by kernel_rfl
theorem zc5 : zcOf Tryz.prog 5 = some [.int .u8 0] := by kernel_rfl
theorem by5 : byOf Tryz.prog 5 = some 1 := by kernel_rfl
set_option maxHeartbeats 4000000 in
theorem sNewWorld (G : Glob) (H : Hp) : XS Tryz.prog G 118 [] H (fun r H' => r = .ptr (H.length + 3) 0 0 ∧ H' = newH H H.length) := by
 refine xs_body (fun o => match o.op with | .call ⟨.value _, _, _⟩ => .shr | _ => .iso) Tryz.func118 rfl ?_
 refine vc_norm (env' := [_, _, _, _, _, _]) (H' := _) rfl rfl ?_
 refine vs (wr ?_)
 refine wN rfl rfl rfl (v6 rfl ?_)
 refine we rfl (vs (wr ?_))
 refine w_opH (v := .mapr H.length) (env' := _) (H2 := H ++ [VO.map []]) rfl (g_makeMap rfl) rfl (rfl) (fun _ h => h) (v6 rfl ?_)
 refine w_opH (v := .mapr (H.length + 1)) (env' := _) (H2 := H ++ [VO.map []] ++ [VO.map []]) rfl (g_makeMap (by simp)) rfl (rfl) (fun _ h => h) (v6 rfl ?_)
 refine w_opH (v := .mapr (H.length + 2)) (env' := _) (H2 := H ++ [VO.map []] ++ [VO.map []] ++ [VO.map []]) rfl (g_makeMap (by simp)) rfl (rfl) (fun _ h => h) (v6 rfl ?_)
 refine wN (v := .agg [_, _, _, _, _]) rfl rfl rfl (v6 rfl ?_)
 refine w_opH (v := .ptr (H.length + 3) 0 0) (env' := _) (H2 := newH H H.length) rfl (g_box (x := .agg [.nils, .mapr H.length, .mapr (H.length + 1), .mapr (H.length + 2), .nils]) rfl (by simp)) rfl (rfl) (fun _ h => h) (v6 rfl ?_)
 refine wN rfl rfl rfl (v6 rfl ?_)
 refine we rfl (vc_ret (r_fn rfl ?_))
 exact ⟨rfl, rfl⟩
set_option maxHeartbeats 4000000 in
theorem sPage (G : Glob) (H : Hp) (w : Pst) (s : St) (own : Nat → Own) (hW : WRep H w s own) (k : Int) : XS Tryz.prog G 145 [.ptr w.lw 0 0, .int .i64 k] H (fun r H' => r = .row true (pgLoc H w k) 0 128 ∧ H' = pgH H w k) := by
 refine xs_body (fun o => match o.op with | .call ⟨.value _, _, _⟩ => .shr | _ => .iso) Tryz.func145 rfl ?_
 refine vc_norm (env' := (_ :: _ :: _ :: _ :: _ :: _ :: _ :: _ :: _ :: _ :: _ :: _ :: _ :: _ :: _ :: _ :: _ :: _ :: _ :: _ :: _ :: _ :: _ :: _ :: [])) (H' := _) rfl rfl ?_
 refine vs (wr ?_)
 refine wN rfl rfl rfl (v24 rfl ?_)
 refine we rfl (vs (vs (wr ?_)))
 refine wN (v := .ptr w.lw 0 0) rfl rfl rfl (v24 rfl ?_)
 iterate 2 refine wN rfl rfl rfl (v24 rfl ?_)
 refine wN (v := .mapr w.lp) rfl (g_load hW.wh rfl rfl) rfl (v24 rfl ?_)
 refine wN rfl rfl rfl (v24 rfl ?_)
 rcases hW.pg k with ⟨hm, hz⟩ | ⟨l, hm, ho, hb⟩
 ·
  refine wN (v := .nils) rfl (mget_miss im187 zr68 hW.ph hm) rfl (v24 rfl ?_)
  refine wN rfl rfl rfl (v24 rfl ?_)
  refine we rfl ?_
  refine vc_cond rfl (fun hc11 => ?_) (fun hc11 => ?_)
  ·
   refine w_regionW [(H ++ [VO.arr 5 1 z128]), (pageH H w k)] (by kernel_rfl) ?_
   refine e_op (v := .ptr w.lw 0 0) (env' := _) rfl (by decide) (show _ = (0, 1) by kernel_rfl) (by decide) (fun _ _ h => h) (fun q h1 h2 => rfl) rfl (w24 rfl ?_)
   iterate 2 refine e_op (env' := _) rfl (by decide) (show _ = (0, 1) by kernel_rfl) (by decide) (fun _ _ h => h) (fun q h1 h2 => rfl) rfl (w24 rfl ?_)
   refine e_op (v := .mapr w.lp) (env' := _) rfl (by decide) (show _ = (0, 1) by kernel_rfl) (by decide) (fun _ _ h => h) (fun q h1 h2 => (match q, h2 with | 0, _ => g_load hW.wh rfl rfl | 1, _ => g_load (get_app hW.wh) rfl rfl | q + 2, h2 => absurd h2 (by omega))) rfl (w24 rfl ?_)
   refine e_op (env' := _) rfl (by decide) (show _ = (0, 1) by kernel_rfl) (by decide) (fun _ _ h => h) (fun q h1 h2 => rfl) rfl (w24 rfl ?_)
   refine e_eff (H0 := _) (H1 := (H ++ [VO.arr 5 1 z128])) (v := .row true H.length 0 128) (env' := _) rfl rfl (show _ = (0, 1) by kernel_rfl) rfl rfl (fun _ _ h => h) ((rfl : vmake Tryz.prog H 68 (.int .i64 128) (.int .i64 128) = some (.row true H.length 0 128, H ++ [VO.arr 5 1 z128]))) rfl (w24 rfl ?_)
   refine e_eff0 (H0 := (H ++ [VO.arr 5 1 z128])) (H1 := (pageH H w k)) rfl rfl (show _ = (1, 2) by kernel_rfl) rfl rfl (fun _ _ h => h) (g_mapUpdate im187 (get_app hW.ph)) ?_
   refine e_end (H' := (pageH H w k)) rfl ?_
   refine vs (wr ?_)
   have hW2 := hW.pageNew hm hz
   refine wN (v := .ptr w.lw 0 0) rfl rfl rfl (v24 rfl ?_)
   iterate 2 refine wN rfl rfl rfl (v24 rfl ?_)
   refine wN (v := .mapr w.lp) rfl (g_load hW2.wh rfl rfl) rfl (v24 rfl ?_)
   refine wN rfl rfl rfl (v24 rfl ?_)
   refine wN (v := .row true H.length 0 128) rfl (mget_look im187 hW2.ph (by simp [mget_mset])) rfl (v24 rfl ?_)
   refine wN rfl rfl rfl (v24 rfl ?_)
   refine we rfl (vc_ret (r_fn rfl ?_))
   exact ⟨by simp only [pgLoc, hm], by simp only [pgH, hm]⟩
  cases hc11
 refine wN (v := .row true l 0 128) rfl (mget_look im187 hW.ph hm) rfl (v24 rfl ?_)
 refine wN rfl rfl rfl (v24 rfl ?_)
 refine we rfl ?_
 refine vc_cond rfl (fun hc11 => ?_) (fun hc11 => ?_)
 ·
  cases hc11
 refine vc_skip (n_then (vs (wr ?_)))
 refine wN (v := .ptr w.lw 0 0) rfl rfl rfl (v24 rfl ?_)
 iterate 2 refine wN rfl rfl rfl (v24 rfl ?_)
 refine wN (v := .mapr w.lp) rfl (g_load hW.wh rfl rfl) rfl (v24 rfl ?_)
 refine wN rfl rfl rfl (v24 rfl ?_)
 refine wN (v := .row true l 0 128) rfl (mget_look im187 hW.ph hm) rfl (v24 rfl ?_)
 refine wN rfl rfl rfl (v24 rfl ?_)
 refine we rfl (vc_ret (r_fn rfl ?_))
 exact ⟨by simp only [pgLoc, hm], by simp only [pgH, hm]⟩
set_option maxHeartbeats 4000000 in
theorem sUnit (G : Glob) (H : Hp) (w : Pst) (s : St) (own : Nat → Own) (hW : WRep H w s own) (k : Int) : XS Tryz.prog G 142 [.ptr w.lw 0 0, .int .i64 k] H (fun r H' => ∃ eu own' l lv, r = .ptr l 0 0 ∧ WRep H' { w with eu := eu } s own' ∧ mget k eu = some (.ptr l 0 0) ∧ own' l = .unit k ∧ UnIs H' own' k l lv (s.unit k) ∧ Fr H own H' own' ∧ (∀ e ∈ eu, e.1 = k ∨ e ∈ w.eu) ∧ eu.length ≤ w.eu.length + 1) := by
 refine xs_body (fun o => match o.op with | .call ⟨.value _, _, _⟩ => .shr | _ => .iso) Tryz.func142 rfl ?_
 refine vc_norm (env' := (_ :: _ :: _ :: _ :: _ :: _ :: _ :: _ :: _ :: _ :: _ :: _ :: _ :: _ :: _ :: _ :: _ :: _ :: _ :: _ :: _ :: _ :: _ :: _ :: _ :: [])) (H' := _) rfl rfl ?_
 refine vs (wr ?_)
 refine wN rfl rfl rfl (v25 rfl ?_)
 refine we rfl (vs (vs (wr ?_)))
 refine wN (v := .ptr w.lw 0 0) rfl rfl rfl (v25 rfl ?_)
 iterate 2 refine wN rfl rfl rfl (v25 rfl ?_)
 refine wN (v := .mapr w.lu) rfl (g_load hW.wh rfl rfl) rfl (v25 rfl ?_)
 refine wN rfl rfl rfl (v25 rfl ?_)
 rcases hW.un k with ⟨hm, hz⟩ | ⟨l, lv, hm, ho, hb⟩
 ·
  refine wN (v := .nilp) rfl (mget_miss im189 zr192 hW.uh hm) rfl (v25 rfl ?_)
  refine wN rfl rfl rfl (v25 rfl ?_)
  refine we rfl ?_
  refine vc_cond rfl (fun hc11 => ?_) (fun hc11 => ?_)
  ·
   refine wr ?_
   refine wN (v := .ptr w.lw 0 0) rfl rfl rfl (v25 rfl ?_)
   iterate 2 refine wN rfl rfl rfl (v25 rfl ?_)
   refine wN (v := .mapr w.lu) rfl (g_load hW.wh rfl rfl) rfl (v25 rfl ?_)
   refine wN rfl rfl rfl (v25 rfl ?_)
   refine wN (v := .agg [_, _, _, _]) rfl rfl rfl (v25 rfl ?_)
   refine w_opH (v := .ptr H.length 0 0) (env' := _) (H2 := H ++ [VO.arr 194 4 [[.int .i64 0, .nils, .str ⟨#[]⟩, .bool false]]]) rfl (g_box (x := .agg [.int .i64 0, .nils, .str ⟨#[]⟩, .bool false]) rfl rfl) rfl (rfl) (fun _ h => h) (v25 rfl ?_)
   refine w_op0N (H2 := unitH H w k) rfl (g_mapUpdate im189 (get_app hW.uh)) (rfl) (fun _ h => h) ?_
   refine we rfl (vs (wr ?_))
   have hW2 := hW.unitNew hm hz
   have hF2 := unitFr hW (k := k)
   have hm2 : mget k (mset k (.ptr H.length 0 0) w.eu) = some (.ptr H.length 0 0) := by simp [mget_mset]
   refine wN (v := .ptr w.lw 0 0) rfl rfl rfl (v25 rfl ?_)
   iterate 2 refine wN rfl rfl rfl (v25 rfl ?_)
   refine wN (v := .mapr w.lu) rfl (g_load hW2.wh rfl rfl) rfl (v25 rfl ?_)
   refine wN rfl rfl rfl (v25 rfl ?_)
   refine wN (v := .ptr H.length 0 0) rfl (mget_look im189 hW2.uh hm2) rfl (v25 rfl ?_)
   refine wN rfl rfl rfl (v25 rfl ?_)
   refine we rfl (vc_ret (r_fn rfl ?_))
   rcases hW2.un k with ⟨h1, h2⟩ | ⟨l, lv, h1, h2, h3⟩
   · rw [hm2] at h1; cases h1
   rw [hm2] at h1
   cases h1
   exact ⟨_, _, _, lv, rfl, hW2, hm2, h2, h3, hF2, mset_mem, mset_len⟩
  cases hc11
 refine wN (v := .ptr l 0 0) rfl (mget_look im189 hW.uh hm) rfl (v25 rfl ?_)
 refine wN rfl rfl rfl (v25 rfl ?_)
 refine we rfl ?_
 refine vc_cond rfl (fun hc11 => ?_) (fun hc11 => ?_)
 ·
  cases hc11
 refine vc_skip (n_then (vs (wr ?_)))
 refine wN (v := .ptr w.lw 0 0) rfl rfl rfl (v25 rfl ?_)
 iterate 2 refine wN rfl rfl rfl (v25 rfl ?_)
 refine wN (v := .mapr w.lu) rfl (g_load hW.wh rfl rfl) rfl (v25 rfl ?_)
 refine wN rfl rfl rfl (v25 rfl ?_)
 refine wN (v := .ptr l 0 0) rfl (mget_look im189 hW.uh hm) rfl (v25 rfl ?_)
 refine wN rfl rfl rfl (v25 rfl ?_)
 refine we rfl (vc_ret (r_fn rfl ?_))
 exact ⟨w.eu, own, l, lv, rfl, hW, hm, ho, hb, Fr.refl H own, fun _ h => .inr h, by omega⟩
end Go.Vi
namespace Go.Vi
open Go Go.Vi Go.Proofs
attribute [local irreducible] vops vopsD vc
theorem byt_len {b : AV} (h : Byt b) : lenOk 1 (lrows b) = true := List.all_eq_true.2 fun q hq => by obtain ⟨v, rfl⟩ := h.2.2 q hq; rfl
theorem isL_str {b : AV} (h : IsL b) : b.isStr = false := by rcases h with rfl | ⟨t, r, rfl⟩ <;> rfl
theorem sz5 : szOf Tryz.prog 5 = some 1 := by kernel_rfl
theorem recs_len {H : Hp} {w : Pst} {s : St} {own : Nat → Own} (hW : WRep H w s own) : (vlen Tryz.prog H 43 w.rv).map (·, H) = some (.int .i64 s.recs.length, H) := by
 have := GrowIs.len hW.rh Tryz.underlying43
 rwa [List.length_map] at this
theorem lay_copy {H : Hp} {l pos : Nat} {tt : Bool} {pg : List (List AV)} {x : AV} (h : H[l]? = some (.arr 5 1 pg)) (hl : pg.length = 128) (hx : Byt x) (hp : pos + (lrows x).length ≤ 128) :
 vcopy Tryz.prog H 68 (.row tt l (0 + pos) (128 - pos)) x = some (.int .i64 ((min (lrows x).length (128 - pos) : Nat) : Int), H.set l (.arr 5 1 (layB pg pos (lrows x)))) := by
 have he : elemAt Tryz.prog 68 = some (none, 5, 1) := el68
 rw [g_copy (rows' := lrows x) he h hx.1.src (byt_len hx) (by decide) (isL_str hx.1) (by omega)]
 have hm : min (lrows x).length (128 - pos) = (lrows x).length := by omega
 rw [hm, List.take_length, Nat.zero_add]
 rfl
set_option maxHeartbeats 4000000 in
theorem sLay (G : Glob) (H : Hp) (w : Pst) (s : St) (own : Nat → Own) (hW : WRep H w s own) (r : Rc) (hr : r.Ok) (hi : r.In) (hlen : s.recs.length < 4611686018427387904) : XS Tryz.prog G 146 [.ptr w.lw 0 0, .agg r.row] H (fun _ H' => ∃ ep es own', WRep H' { w with ep := ep, es := es } (s.lay r) own' ∧ Fr H own H' own') := by
 have hLb := hr.bef.1
 have hLa := hr.aft.1
 have hLo := hr.opn
 have hbb := hr.bef.2.1
 have hab := hr.aft.2.1
 have hxt := hr.txt
 have hlen := hr.len
 have hol : (lrows r.opn).length = r.opens.length := by rw [hr.rows]; simp
 have hp0 := hi.p0
 have hp1 := hi.p1
 have hna : r.na = (lrows r.aft).length := rfl
 have hWb := hW.app [VO.arr 93 10 [r.row]]
 obtain ⟨ep, own1, hP⟩ := hWb.pgIs r.page
 have hnoB : own H.length = .no := hW.no
 have hB0 : (H ++ [VO.arr 93 10 [r.row]])[H.length]? = some (VO.arr 93 10 [r.row]) := get_last
 have hB1 : (pgH (H ++ [VO.arr 93 10 [r.row]]) w r.page)[H.length]? = some (VO.arr 93 10 [r.row]) := (hP.fr.keep _ (by simp) hnoB).trans hB0
 have hlb : (lrows r.aft).length ≤ 128 - r.pos.toNat := by omega
 refine xs_body (fun o => match o.op with | .call ⟨.value _, _, _⟩ => .shr | _ => .iso) Tryz.func146 rfl ?_
 refine vc_norm (env' := (_ :: _ :: _ :: _ :: _ :: _ :: _ :: _ :: _ :: _ :: _ :: _ :: _ :: _ :: _ :: _ :: _ :: _ :: _ :: _ :: _ :: _ :: _ :: _ :: _ :: _ :: [])) (H' := _) rfl rfl ?_
 refine vs (wr ?_)
 refine w_opH (v := .ptr H.length 0 0) (env' := _) (H2 := H ++ [VO.arr 93 10 [r.row]]) rfl (g_box (x := .agg r.row) rfl rfl) rfl (rfl) (fun _ h => h) (v26 rfl ?_)
 refine we rfl (vs ?_)
 refine w_regionW [(pgH (H ++ [VO.arr 93 10 [r.row]]) w r.page), ((pgH (H ++ [VO.arr 93 10 [r.row]]) w r.page).set (pgLoc (H ++ [VO.arr 93 10 [r.row]]) w r.page) (.arr 5 1 (layB (s.page r.page) r.pos.toNat (lrows r.aft))))] (by kernel_rfl) ?_
 refine e_op (v := .ptr w.lw 0 0) (env' := _) rfl (by decide) (show _ = (0, 0) by kernel_rfl) (by decide) (fun _ _ h => h) (fun q h1 h2 => rfl) rfl (w26 rfl ?_)
 refine e_op (v := .ptr H.length 0 2) (env' := _) rfl (by decide) (show _ = (0, 0) by kernel_rfl) (by decide) (fun _ _ h => h) (fun q h1 h2 => rfl) rfl (w26 rfl ?_)
 refine e_op (v := .int .i64 r.page) (env' := _) rfl (by decide) (show _ = (0, 0) by kernel_rfl) (by decide) (fun _ _ h => h) (fun q h1 h2 => (match q, h2 with | 0, _ => g_load hB0 rfl rfl | q + 1, h2 => absurd h2 (by omega))) rfl (w26 rfl ?_)
 refine e_callS (H0 := _) (H1 := (pgH (H ++ [VO.arr 93 10 [r.row]]) w r.page)) (env' := _) rfl rfl rfl (by kernel_rfl) rfl (show _ = (0, 1) by kernel_rfl) rfl rfl (sPage G _ w s own hWb r.page) rfl (w26 rfl ?_)
 refine e_op (v := .ptr H.length 0 3) (env' := _) rfl (by decide) (show _ = (0, 1) by kernel_rfl) (by decide) (fun _ _ h => h) (fun q h1 h2 => rfl) rfl (w26 rfl ?_)
 refine e_op (v := .int .i64 r.pos) (env' := _) rfl (by decide) (show _ = (0, 1) by kernel_rfl) (by decide) (fun _ _ h => h) (fun q h1 h2 => (match q, h2 with | 0, _ => g_load hB0 rfl rfl | 1, _ => g_load hB1 rfl rfl | q + 2, h2 => absurd h2 (by omega))) rfl (w26 rfl ?_)
 refine e_op (v := .row (cutT true 128 128 none) (pgLoc (H ++ [VO.arr 93 10 [r.row]]) w r.page) (0 + r.pos.toNat) (128 - r.pos.toNat)) (env' := _) rfl (by decide) (show _ = (1, 1) by kernel_rfl) (by decide) (fun _ _ h => h) (fun q h1 h2 => (match q, h1, h2 with | 0, h1, _ => absurd h1 (by omega) | 1, _, _ => g_slice (e := 5) Tryz.underlying68 sz5 hP.obj hp0 (by omega) | q + 2, _, h2 => absurd h2 (by omega))) rfl (w26 rfl ?_)
 refine e_op (v := .ptr H.length 0 5) (env' := _) rfl (by decide) (show _ = (0, 1) by kernel_rfl) (by decide) (fun _ _ h => h) (fun q h1 h2 => rfl) rfl (w26 rfl ?_)
 refine e_op (v := r.aft) (env' := _) rfl (by decide) (show _ = (0, 1) by kernel_rfl) (by decide) (fun _ _ h => h) (fun q h1 h2 => (match q, h2 with | 0, _ => g_load hB0 rfl rfl | 1, _ => g_load hB1 rfl rfl | q + 2, h2 => absurd h2 (by omega))) rfl (w26 rfl ?_)
 refine e_eff (H0 := (pgH (H ++ [VO.arr 93 10 [r.row]]) w r.page)) (H1 := ((pgH (H ++ [VO.arr 93 10 [r.row]]) w r.page).set (pgLoc (H ++ [VO.arr 93 10 [r.row]]) w r.page) (.arr 5 1 (layB (s.page r.page) r.pos.toNat (lrows r.aft))))) (v := .int .i64 ((min (lrows r.aft).length (128 - r.pos.toNat) : Nat) : Int)) (env' := _) rfl rfl (show _ = (1, 2) by kernel_rfl) rfl rfl (fun _ _ h => h) (lay_copy (tt := cutT true 128 128 none) hP.obj (hW.plen r.page) hr.aft (by omega)) rfl (w26 rfl ?_)
 refine e_end (H' := ((pgH (H ++ [VO.arr 93 10 [r.row]]) w r.page).set (pgLoc (H ++ [VO.arr 93 10 [r.row]]) w r.page) (.arr 5 1 (layB (s.page r.page) r.pos.toNat (lrows r.aft))))) rfl ?_
 refine w_regionD (by kernel_rfl) ?_
 have hW3 := hP.rep.pageSet hP.get hP.ow (lt_of hP.obj) ((layB_length (b := lrows r.aft) (pos := r.pos.toNat) (by rw [hW.plen]; omega)).trans (hW.plen r.page)) (layB_byt (hW.pby r.page) hr.aft.2.2)
 have hB3 : ((pgH (H ++ [VO.arr 93 10 [r.row]]) w r.page).set (pgLoc (H ++ [VO.arr 93 10 [r.row]]) w r.page) (.arr 5 1 (layB (s.page r.page) r.pos.toNat (lrows r.aft))))[H.length]? = some (VO.arr 93 10 [r.row]) := get_set hB1 (fun e => by have := hP.fr.own H.length (by simp); rw [hnoB, ← e, hP.ow] at this; cases this)
 have hF3 := (Fr.app H [VO.arr 93 10 [r.row]] own).trans (hP.fr.trans (Fr.set (o := .arr 5 1 (layB (s.page r.page) r.pos.toNat (lrows r.aft))) (by rw [hP.ow]; simp)))
 generalize ((pgH (H ++ [VO.arr 93 10 [r.row]]) w r.page).set (pgLoc (H ++ [VO.arr 93 10 [r.row]]) w r.page) (.arr 5 1 (layB (s.page r.page) r.pos.toNat (lrows r.aft)))) = H3 at hW3 hB3 hF3 ⊢
 refine dN (v := .ptr w.lw 0 0) rfl rfl rfl (d26 rfl ?_)
 iterate 2 refine dN rfl rfl rfl (d26 rfl ?_)
 refine dN (v := .mapr w.ls) rfl (g_load hW3.wh rfl rfl) rfl (d26 rfl ?_)
 refine dN (v := .ptr H.length 0 2) rfl rfl rfl (d26 rfl ?_)
 refine dN (v := .int .i64 r.page) rfl (g_load hB3 rfl rfl) rfl (d26 rfl ?_)
 refine dN (v := .ptr w.lw 0 0) rfl rfl rfl (d26 rfl ?_)
 iterate 2 refine dN rfl rfl rfl (d26 rfl ?_)
 refine dN (v := w.rv) rfl (g_load hW3.wh rfl rfl) rfl (d26 rfl ?_)
 refine dN (v := .int .i64 s.recs.length) rfl ((recs_len hW3 :)) rfl (d26 rfl ?_)
 refine dN (v := .int .i64 ((s.recs.length : Int) + 1)) rfl (int_eq (i64_small (by omega) (by omega))) rfl (d26 rfl ?_)
 refine d_op0 (H2 := _) rfl (g_mapUpdate im188 hW3.sh) (.inl rfl) (rfl) (fun _ h => h) ?_
 refine d_nil (n_fn rfl ?_)
 exact ⟨_, _, _, hW3.stampSet, hF3.trans (Fr.set (by rw [hW3.so]; simp))⟩
end Go.Vi
namespace Go.Vi
variable {H H' : Hp} {w : Pst} {s : St} {own own' : Nat → Own}
theorem grow_app {P : Program} {tag : Own} {T sz t t2 by_ : Nat} {v x : AV} {rows news : List (List AV)} {d2 : TypeDesc} {zc : List AV} (h : GrowIs H own tag T sz v rows) (he : elemAt P t = some (none, T, sz)) (hu : P.underlying t2 = some d2) (hd : isInt d2 = false) (hz : zcOf P T = some zc) (hb : byOf P T = some by_)
 (hx : srcRows H x = some news) (hl : zc.length = sz) (h0 : sz ≠ 0) (hb0 : by_ ≠ 0) (hlo : lenOk sz news = true) (hs : x.isStr = false) (hne : news ≠ []) (hsz : (rows.length + news.length) * by_ ≤ 140737488355328) :
 ∃ H1, vappendR P H t t2 v x = some (.row false H.length 0 (rows.length + news.length), H1) ∧ H1.length = H.length + 1 ∧ H1[H.length]? = some (.arr T sz (rows ++ news)) ∧ ∀ l, l < H.length → own l ≠ tag → H1[l]? = H[l]? := by
 have hn0 : ¬ news.length = 0 := by simpa using hne
 rcases h with ⟨rfl, rfl⟩ | ⟨L, rows0, rfl, h2, h3, h4⟩
 · refine ⟨H ++ [.arr T sz news], ?_, by simp, by simp, fun l hl _ => List.getElem?_append_left hl⟩
   unfold vappendR vappendF
   simp only [he, hu, hd, hz, hb, hx, Bool.false_eq_true, if_false]
   rw [if_pos ⟨hl, h0, hb0, hlo, by simp [hs], rfl⟩, if_neg hn0]
   rw [if_pos (by simpa using hsz)]
   simp
 have hle : rows.length ≤ rows0.length := by
  have := congrArg List.length h4
  simp at this
  omega
 have hlt := lt_of h3
 refine ⟨H.set L .dead ++ [.arr T sz (rows ++ news)], ?_, by simp, by rw [List.getElem?_append_right (by simp)]; simp, fun l hl hn => ?_⟩
 · unfold vappendR vappendF
   simp only [he, hu, hd, hz, hb, hx, Bool.false_eq_true, if_false]
   rw [if_pos ⟨hl, h0, hb0, hlo, by simp [hs], rfl⟩, if_neg hn0]
   simp only [h3]
   rw [if_pos ⟨⟨trivial, trivial⟩, by omega, hsz⟩, List.drop_zero, h4]
 rw [List.getElem?_append_left (by simpa using hl), List.getElem?_set_ne (fun e => hn (by rw [← e]; exact h2))]
theorem GrowIs.push {tag : Own} {T sz : Nat} {H1 : Hp} {n : Nat} {rows : List (List AV)} (hn : H.length = n) (h : H1[n]? = some (.arr T sz rows)) : GrowIs H1 (own1 own n tag) tag T sz (.row false n 0 rows.length) rows :=
 .inr ⟨n, rows, rfl, own1_self, h, List.take_length⟩
theorem GrowIs.cut {tag : Own} {T sz : Nat} {L k : Nat} {rows rows0 : List (List AV)} (ho : own L = tag) (h : H[L]? = some (.arr T sz rows0)) (h4 : rows0.take rows.length = rows) (hk : k ≤ rows.length) : GrowIs H own tag T sz (.row false L 0 k) (rows.take k) := by
 have hle : (rows.take k).length = k := by simp; omega
 refine .inr ⟨L, rows0, by rw [hle], ho, h, ?_⟩
 rw [hle]
 have : (rows0.take rows.length).take k = rows.take k := by rw [h4]
 rw [List.take_take] at this
 rwa [Nat.min_eq_left hk] at this
theorem WRep.unitSet (hW : WRep H w s own) {k : Int} {l : Nat} {u : Un} {lv : AV} (hm : mget k w.eu = some (.ptr l 0 0)) (h : Same (fun t => t = .unit k ∨ t = .left k) H own H' own') (hf : ∀ x, H'.length ≤ x → own' x = .no) (ho : own' l = .unit k)
 (hu : UnIs H' own' k l lv u) : WRep H' w { s with unit := fset s.unit k u } own' := by
 refine ⟨hf, (h.own _ (lt_of hW.wh)).trans hW.wo, (h.own _ (lt_of hW.ph)).trans hW.po, (h.own _ (lt_of hW.sh)).trans hW.so, (h.own _ (lt_of hW.uh)).trans hW.uo, (h.at hW.wo (by simp) hW.wh).2, h.grow (by simp) hW.rh, let ⟨rows, hv⟩ := hW.vh; ⟨rows, h.grow (by simp) hv⟩, (h.at hW.po (by simp) hW.ph).2, (h.at hW.so (by simp) hW.sh).2, (h.at hW.uo (by simp) hW.uh).2, fun j => (hW.pg j).imp id fun ⟨l, h1, h2, h3⟩ => ⟨l, h1, h.at h2 (by simp) h3⟩, hW.st, fun j => ?_, hW.nd, hW.plen, hW.pby, hW.rok⟩
 by_cases hj : j = k
 · subst hj
   exact .inr ⟨l, lv, hm, ho, by simp only [fset_self]; exact hu⟩
 simp only [fset_ne hj]
 exact (hW.un j).imp id fun ⟨l, lv, h1, h2, h3⟩ => ⟨l, lv, h1, h.un h2 (by simp [hj]) (by simp [hj]) h3⟩
def unRow (u : Un) (lv : AV) : List AV := [.int .i64 u.stands, lv, .str u.ready, .bool u.seen]
theorem WRep.unitPut (hW : WRep H w s own) {k : Int} {l : Nat} {u : Un} {lv : AV} (hm : mget k w.eu = some (.ptr l 0 0)) (ho : own l = .unit k) (hl : l < H.length) (hg : GrowIs H own (.left k) 3 1 lv (u.left.map iRow)) :
 WRep (H.set l (.arr 194 4 [unRow u lv])) w { s with unit := fset s.unit k u } own ∧ UnIs (H.set l (.arr 194 4 [unRow u lv])) own k l lv u := by
 have h : Same (fun t => t = .unit k) H own (H.set l (.arr 194 4 [unRow u lv])) own := same_set ho
 have hu : UnIs (H.set l (.arr 194 4 [unRow u lv])) own k l lv u := ⟨List.getElem?_set_self hl, h.grow (by simp) hg⟩
 exact ⟨hW.unitSet hm ⟨h.len, fun x hx hn => h.keep x hx (fun e => hn (.inl e)), h.own⟩ (fun x hx => hW.fresh x (by simpa using hx)) ho hu, hu⟩
theorem WRep.leftPush (hW : WRep H w s own) {k : Int} {l : Nat} {u : Un} {H1 : Hp} {rows : List (List AV)} (hm : mget k w.eu = some (.ptr l 0 0)) (ho : own l = .unit k) (hl : l < H.length) (h1 : H1.length = H.length + 1) (h2 : H1[H.length]? = some (.arr 3 1 rows)) (h3 : ∀ x, x < H.length → own x ≠ .left k → H1[x]? = H[x]?) (hr : u.left.map iRow = rows) :
 WRep (H1.set l (.arr 194 4 [unRow u (.row false H.length 0 rows.length)])) w { s with unit := fset s.unit k u } (own1 own H.length (.left k)) ∧ UnIs (H1.set l (.arr 194 4 [unRow u (.row false H.length 0 rows.length)])) (own1 own H.length (.left k)) k l (.row false H.length 0 rows.length) u ∧ own1 own H.length (.left k) l = .unit k ∧
  Fr H own (H1.set l (.arr 194 4 [unRow u (.row false H.length 0 rows.length)])) (own1 own H.length (.left k)) := by
 have ho1 : own1 own H.length (.left k) l = .unit k := (own1_ne (by omega)).trans ho
 have h : Same (fun t => t = .unit k ∨ t = .left k) H own (H1.set l (.arr 194 4 [unRow u (.row false H.length 0 rows.length)])) (own1 own H.length (.left k)) :=
  ⟨by simp [h1], fun x hx hn => by rw [List.getElem?_set_ne (fun e => hn (.inl (by rw [← e]; exact ho)))]; exact h3 x hx (fun e => hn (.inr e)), fun x hx => own1_ne (by omega)⟩
 have hu : UnIs (H1.set l (.arr 194 4 [unRow u (.row false H.length 0 rows.length)])) (own1 own H.length (.left k)) k l (.row false H.length 0 rows.length) u := by
  refine ⟨List.getElem?_set_self (by omega), ?_⟩
  rw [hr]
  refine .inr ⟨H.length, rows, rfl, own1_self, ?_, List.take_length⟩
  rw [List.getElem?_set_ne (by omega)]
  exact h2
 exact ⟨hW.unitSet hm h (fun x hx => by simp [h1] at hx; rw [own1_ne (by omega)]; exact hW.fresh x (by omega)) ho1 hu, hu, ho1, h.fr (by simp)⟩
theorem WRep.recPush (hW : WRep H w s own) {H1 : Hp} {r : Rc} (hr : r.Ok) (h1 : H1.length = H.length + 1) (h2 : H1[H.length]? = some (.arr 93 10 (s.recs.map Rc.row ++ [r.row]))) (h3 : ∀ x, x < H.length → own x ≠ .recs → H1[x]? = H[x]?) :
 WRep (H1.set w.lw (.arr 191 5 [[.row false H.length 0 (s.recs.length + 1), .mapr w.lp, .mapr w.ls, .mapr w.lu, w.wv]])) { w with rv := .row false H.length 0 (s.recs.length + 1) } { s with recs := s.recs ++ [r] } (own1 own H.length .recs) ∧
  Fr H own (H1.set w.lw (.arr 191 5 [[.row false H.length 0 (s.recs.length + 1), .mapr w.lp, .mapr w.ls, .mapr w.lu, w.wv]])) (own1 own H.length .recs) := by
 have hlw := lt_of hW.wh
 have h : Same (fun t => t = .world ∨ t = .recs) H own (H1.set w.lw (.arr 191 5 [[.row false H.length 0 (s.recs.length + 1), .mapr w.lp, .mapr w.ls, .mapr w.lu, w.wv]])) (own1 own H.length .recs) :=
  ⟨by simp [h1], fun x hx hn => by rw [List.getElem?_set_ne (fun e => hn (.inl (by rw [← e]; exact hW.wo)))]; exact h3 x hx (fun e => hn (.inr e)), fun x hx => own1_ne (by omega)⟩
 refine ⟨⟨fun x hx => by simp [h1] at hx; rw [own1_ne (by omega)]; exact hW.fresh x (by omega), (h.own _ hlw).trans hW.wo, (h.own _ (lt_of hW.ph)).trans hW.po, (h.own _ (lt_of hW.sh)).trans hW.so, (h.own _ (lt_of hW.uh)).trans hW.uo, List.getElem?_set_self (by omega), ?_, let ⟨rows, hv⟩ := hW.vh; ⟨rows, h.grow (by simp) hv⟩, (h.at hW.po (by simp) hW.ph).2, (h.at hW.so (by simp) hW.sh).2, (h.at hW.uo (by simp) hW.uh).2, fun j => (hW.pg j).imp id fun ⟨l, h1, h2, h3⟩ => ⟨l, h1, h.at h2 (by simp) h3⟩, hW.st, fun j => (hW.un j).imp id fun ⟨l, lv, h1, h2, h3⟩ => ⟨l, lv, h1, h.un h2 (by simp) (by simp) h3⟩, hW.nd, hW.plen, hW.pby, fun q hq => ?_⟩, h.fr (by simp)⟩
 · refine .inr ⟨H.length, s.recs.map Rc.row ++ [r.row], by simp, own1_self, ?_, by simp [List.take_of_length_le]⟩
   rw [List.getElem?_set_ne (by omega)]
   exact h2
 rcases List.mem_append.1 hq with hq | hq
 · exact hW.rok q hq
 simp at hq; subst hq; exact hr
theorem WRep.winPush (hW : WRep H w s own) {H1 : Hp} {rows : List (List AV)} (h1 : H1.length = H.length + 1) (h2 : H1[H.length]? = some (.arr 3 1 rows)) (h3 : ∀ x, x < H.length → own x ≠ .wins → H1[x]? = H[x]?) :
 WRep (H1.set w.lw (.arr 191 5 [[w.rv, .mapr w.lp, .mapr w.ls, .mapr w.lu, .row false H.length 0 rows.length]])) { w with wv := .row false H.length 0 rows.length } s (own1 own H.length .wins) ∧
  Same (fun t => t = .world ∨ t = .wins) H own (H1.set w.lw (.arr 191 5 [[w.rv, .mapr w.lp, .mapr w.ls, .mapr w.lu, .row false H.length 0 rows.length]])) (own1 own H.length .wins) := by
 have hlw := lt_of hW.wh
 have h : Same (fun t => t = .world ∨ t = .wins) H own (H1.set w.lw (.arr 191 5 [[w.rv, .mapr w.lp, .mapr w.ls, .mapr w.lu, .row false H.length 0 rows.length]])) (own1 own H.length .wins) :=
  ⟨by simp [h1], fun x hx hn => by rw [List.getElem?_set_ne (fun e => hn (.inl (by rw [← e]; exact hW.wo)))]; exact h3 x hx (fun e => hn (.inr e)), fun x hx => own1_ne (by omega)⟩
 refine ⟨⟨fun x hx => by simp [h1] at hx; rw [own1_ne (by omega)]; exact hW.fresh x (by omega), (h.own _ hlw).trans hW.wo, (h.own _ (lt_of hW.ph)).trans hW.po, (h.own _ (lt_of hW.sh)).trans hW.so, (h.own _ (lt_of hW.uh)).trans hW.uo, List.getElem?_set_self (by omega), h.grow (by simp) hW.rh, ⟨rows, .inr ⟨H.length, rows, rfl, own1_self, by rw [List.getElem?_set_ne (by omega)]; exact h2, List.take_length⟩⟩, (h.at hW.po (by simp) hW.ph).2, (h.at hW.so (by simp) hW.sh).2, (h.at hW.uo (by simp) hW.uh).2, fun j => (hW.pg j).imp id fun ⟨l, h1, h2, h3⟩ => ⟨l, h1, h.at h2 (by simp) h3⟩, hW.st, fun j => (hW.un j).imp id fun ⟨l, lv, h1, h2, h3⟩ => ⟨l, lv, h1, h.un h2 (by simp) (by simp) h3⟩, hW.nd, hW.plen, hW.pby, hW.rok⟩, h⟩
end Go.Vi
namespace Go.Vi
def roOf (k : Int) (u : Un) : Ro := ⟨k, u.left.getLast?.getD 0, u.ready⟩
def isOpenU (u : Un) : Bool := u.seen && decide (u.stands ≤ 1)
structure Opens (s : St) (l : List Ro) : Prop where
 asc : l.Pairwise (fun a b => a.unit < b.unit)
 mem : ∀ x, x ∈ l ↔ ∃ k, isOpenU (s.unit k) = true ∧ x = roOf k (s.unit k)
theorem asc_unique : ∀ {l m : List Ro}, l.Pairwise (fun a b => a.unit < b.unit) → m.Pairwise (fun a b => a.unit < b.unit) → (∀ x, x ∈ l ↔ x ∈ m) → l = m
 | [], [], _, _, _ => rfl
 | [], b :: m, _, _, h => absurd ((h b).2 (by simp)) (by simp)
 | a :: l, [], _, _, h => absurd ((h a).1 (by simp)) (by simp)
 | a :: l, b :: m, h1, h2, h => by
   rw [List.pairwise_cons] at h1 h2
   have hab : a = b := by
    have ha := (h a).1 (by simp)
    have hb := (h b).2 (by simp)
    rcases List.mem_cons.1 ha with e | ha
    · exact e
    rcases List.mem_cons.1 hb with e | hb
    · exact e.symm
    have := h2.1 a ha
    have := h1.1 b hb
    omega
   subst hab
   congr 1
   refine asc_unique h1.2 h2.2 fun x => ⟨fun hx => ?_, fun hx => ?_⟩
   · rcases List.mem_cons.1 ((h x).1 (by simp [hx])) with e | hm
     · subst e; have := h1.1 x hx; omega
     exact hm
   rcases List.mem_cons.1 ((h x).2 (by simp [hx])) with e | hm
   · subst e; have := h2.1 x hx; omega
   exact hm
theorem Opens.unique {s : St} {l m : List Ro} (h1 : Opens s l) (h2 : Opens s m) : l = m :=
 asc_unique h1.asc h2.asc fun x => (h1.mem x).trans (h2.mem x).symm
open Classical in
noncomputable def St.opens (s : St) : List Ro := if h : ∃ l, Opens s l then Classical.choose h else []
theorem Opens.eq {s : St} {l : List Ro} (h : Opens s l) : s.opens = l := by
 have hx : ∃ l, Opens s l := ⟨l, h⟩
 unfold St.opens
 rw [dif_pos hx]
 exact (Classical.choose_spec hx).unique h
def openAt (s : St) (k : Int) : Option Ro := if isOpenU (s.unit k) = true then some (roOf k (s.unit k)) else none
def openL (s : St) (ks : List Int) : List Ro := ks.filterMap (openAt s)
theorem openL_opens {s : St} {ks : List Int} (h : ks.Pairwise (· < ·)) (hk : ∀ k, isOpenU (s.unit k) = true → k ∈ ks) : Opens s (openL s ks) := by
 refine ⟨?_, fun x => ?_⟩
 · unfold openL
   rw [List.pairwise_filterMap]
   refine h.imp fun {a b} hab x hx y hy => ?_
   unfold openAt at hx hy
   split at hx <;> split at hy <;> simp at hx hy
   subst hx; subst hy
   exact hab
 unfold openL
 rw [List.mem_filterMap]
 constructor
 · rintro ⟨k, _, hx⟩
   unfold openAt at hx
   split at hx <;> simp at hx
   rename_i h1
   exact ⟨k, h1, hx.symm⟩
 rintro ⟨k, h1, rfl⟩
 exact ⟨k, hk k h1, by simp [openAt, h1]⟩
theorem sortI_asc {l : List Int} (h : l.Nodup) : (l.mergeSort fun x y => decide (x ≤ y)).Pairwise (· < ·) := by
 have h1 : (l.mergeSort fun x y => decide (x ≤ y)).Pairwise (fun a b => decide (a ≤ b) = true) := List.pairwise_mergeSort (fun a b c h1 h2 => by simp at h1 h2 ⊢; omega) (fun a b => by simp; omega) l
 have h2 : (l.mergeSort fun x y => decide (x ≤ y)).Nodup := (List.mergeSort_perm l _).nodup_iff.2 h
 exact (h1.and h2).imp fun {a b} ⟨p, q⟩ => by have := of_decide_eq_true p; omega
def Un.next (u : Un) : Int := u.left.getLast?.getD 0
def meetsL (s : St) (r : Rc) (k : Int) : Bool := match s.recs[(k - 1).toNat]? with
 | some c => meetsB c r
 | none => false
def meetsAt (s : St) (r : Rc) (n : Int) : Bool := !(n == r.unit || decide ((s.unit n).stands > 1)) && (s.unit n).left.any (meetsL s r)
open Classical in
noncomputable def St.meets (s : St) (r : Rc) : Bool := decide (∃ n, meetsAt s r n = true)
def St.was (s : St) (r : Rc) : List (List AV) := ((s.page r.page).drop r.pos.toNat).take r.nb
noncomputable def St.changeOk (s : St) (r : Rc) : Bool := !s.meets r && eqB (s.was r) (lrows r.bef)
def St.undoneOk (s : St) (r : Rc) : Bool := match (s.unit r.unit).left.getLast? with
 | none => false
 | some b => b == r.back && match s.recs[(b - 1).toNat]? with
   | none => false
   | some c => c.page == r.page && c.pos == r.pos && eqB (lrows c.bef) (lrows r.aft) && r.next == (s.unit r.unit).left.dropLast.getLast?.getD 0
noncomputable def St.kindOk (s : St) (r : Rc) : Bool :=
 if r.kind = 1 then s.changeOk r else if r.kind = 2 then s.undoneOk r else if r.kind = 4 then (s.unit r.unit).left.isEmpty else if r.kind = 6 then sameOpens r.opens s.opens else true
def St.unitOk (s : St) (r : Rc) : Bool :=
 !(decide ((s.unit r.unit).stands ≥ 2) || ((s.unit r.unit).stands == 1 && (r.kind == 1 || r.kind == 5)))
noncomputable def St.follows (s : St) (r : Rc) : Bool :=
 validP r && !(((r.unit == 0) != (r.kind == 6)) && !(r.kind == 7 && r.unit == 0)) && (r.unit == 0 || s.unitOk r) && s.kindOk r
def Un.core (u : Un) (r : Rc) (n : Int) : Un :=
 if r.kind = 1 then { u with left := u.left ++ [n] } else if r.kind = 2 then { u with left := u.left.dropLast } else if r.kind = 3 then { u with stands := 2 }
  else if r.kind = 4 then { u with stands := 3 } else if r.kind = 5 then { u with stands := 1, ready := r.text } else u
def Un.step (u : Un) (r : Rc) (n : Int) : Un := { u.core r n with seen := (u.core r n).seen || r.kind != 7 }
def St.add (s : St) (r : Rc) : St where
 recs := s.recs ++ [r]
 page := if laysB r = true then (s.lay r).page else s.page
 stamp := if laysB r = true then (s.lay r).stamp else s.stamp
 unit := if r.unit = 0 then s.unit else fset s.unit r.unit ((s.unit r.unit).step r (s.recs.length + 1))
structure StOk (s : St) : Prop where
 rin : ∀ r ∈ s.recs, r.In
 lft : ∀ n, ∀ k ∈ (s.unit n).left, 1 ≤ k ∧ k ≤ s.recs.length
 len : s.recs.length ≤ 1000000
 left : ∀ n, (s.unit n).left.length ≤ s.recs.length
 unseen : ∀ n, (s.unit n).seen = false → s.unit n = Un.new
 zero : s.unit 0 = Un.new
 num : ∀ n, (s.unit n).seen = true → 0 ≤ n ∧ n ≤ 1000000
 std : ∀ n, 0 ≤ (s.unit n).stands ∧ (s.unit n).stands ≤ 3
theorem StOk.new : StOk St.new := ⟨fun r h => (by cases h), fun n k h => (by cases h), by decide, fun n => Nat.le_refl _, fun n _ => rfl, rfl, fun n h => (by cases h), fun n => (by decide : (0 : Int) ≤ 0 ∧ (0 : Int) ≤ 3)⟩
theorem validP_unit {r : Rc} (h : validP r = true) : 0 ≤ r.unit ∧ r.unit ≤ 1000000 := by
 rw [valid_eq] at h
 simp only [validR, isNum, Bool.and_eq_true, decide_eq_true_eq] at h
 omega
theorem validP_in {r : Rc} (h : validP r = true) : r.In := by
 rw [valid_eq] at h
 simp only [validR, kindR, Bool.and_eq_true] at h
 obtain ⟨_, h⟩ := h
 have place : isPlaceR r.page r.pos r.na = true → (r.nb = r.na ∨ r.nb = 0) → r.In := fun h hn => by
  simp only [isPlaceR, Bool.and_eq_true, decide_eq_true_eq] at h
  exact ⟨by omega, by omega, by omega, by omega, by omega⟩
 have none : fieldsR r = false → r.In := fun h => by
  simp only [fieldsR, Bool.or_eq_false_iff, decide_eq_false_iff_not, bne_eq_false_iff_eq] at h
  exact ⟨by omega, by omega, by omega, by omega, by omega⟩
 split at h
 · simp only [Bool.and_eq_true, beq_iff_eq] at h; exact place h.1.1.1.1 (.inl (by have := h.1.1.1.2; omega))
 split at h
 · simp only [Bool.and_eq_true, beq_iff_eq] at h; exact place h.1.1.1.1.1 (.inr (by have := h.1.1.1.1.2; omega))
 split at h
 · simp only [Bool.and_eq_true, Bool.not_eq_true'] at h; exact none h.1.1.1
 split at h
 · simp only [Bool.and_eq_true, Bool.not_eq_true'] at h; exact none h.1.1.1.1
 split at h
 · simp only [Bool.and_eq_true, Bool.not_eq_true'] at h; exact none h.1.1.1.1
 split at h
 · simp only [Bool.and_eq_true, Bool.not_eq_true'] at h; exact none h.1.1.1
 cases h
theorem follows_valid {s : St} {r : Rc} (h : s.follows r = true) : validP r = true := by
 simp only [St.follows, Bool.and_eq_true] at h; exact h.1.1.1
theorem mem_dropLast {α : Type} {l : List α} {x : α} (h : x ∈ l.dropLast) : x ∈ l := List.dropLast_subset l h
theorem Un.step_leftE {u : Un} {r : Rc} {n : Int} : (u.step r n).left = if r.kind = 1 then u.left ++ [n] else if r.kind = 2 then u.left.dropLast else u.left := by
 unfold Un.step Un.core
 by_cases h1 : r.kind = 1
 · simp [h1]
 by_cases h2 : r.kind = 2
 · simp [h2]
 by_cases h3 : r.kind = 3
 · simp [h3]
 by_cases h4 : r.kind = 4
 · simp [h4]
 by_cases h5 : r.kind = 5
 · simp [h5]
 simp [h1, h2, h3, h4, h5]
theorem Un.step_left {u : Un} {r : Rc} {n k : Int} (h : k ∈ (u.step r n).left) : k ∈ u.left ∨ k = n := by
 rw [Un.step_leftE] at h
 split at h
 · simpa using h
 split at h
 · exact .inl (mem_dropLast h)
 exact .inl h
theorem Un.step_len {u : Un} {r : Rc} {n : Int} : (u.step r n).left.length ≤ u.left.length + 1 := by
 rw [Un.step_leftE]
 repeat' split
 all_goals simp
 omega
theorem Un.step_seen {u : Un} {r : Rc} {n : Int} : (u.step r n).seen = (u.seen || r.kind != 7) := by
 unfold Un.step Un.core
 simp only
 repeat' split
 all_goals rfl
theorem Un.step_note {u : Un} {r : Rc} {n : Int} (h : r.kind = 7) : u.step r n = u := by
 unfold Un.step Un.core
 simp [h]
theorem Un.step_std {u : Un} {r : Rc} {n : Int} (h : 0 ≤ u.stands ∧ u.stands ≤ 3) : 0 ≤ (u.step r n).stands ∧ (u.step r n).stands ≤ 3 := by
 unfold Un.step Un.core
 simp only
 repeat' split
 all_goals first | exact h | (simp only; omega)
theorem StOk.add {s : St} {r : Rc} (hS : StOk s) (hf : s.follows r = true) (hl : s.recs.length < 1000000) : StOk (s.add r) := by
 have hv := follows_valid hf
 have hu := validP_unit hv
 refine ⟨fun q hq => ?_, fun n k hk => ?_, by simp [St.add]; omega, fun n => ?_, fun n hn => ?_, ?_, fun n hn => ?_, fun n => ?_⟩
 · simp only [St.add, List.mem_append, List.mem_singleton] at hq
   rcases hq with hq | rfl
   · exact hS.rin q hq
   exact validP_in hv
 · simp only [St.add] at hk ⊢
   simp only [List.length_append, List.length_singleton]
   split at hk
   · have := hS.lft n k hk; omega
   by_cases hn : n = r.unit
   · subst hn
     rw [fset_self] at hk
     rcases Un.step_left hk with hk | rfl
     · have := hS.lft _ k hk; omega
     omega
   rw [fset_ne hn] at hk
   have := hS.lft n k hk; omega
 · simp only [St.add, List.length_append, List.length_singleton]
   split
   · have := hS.left n; omega
   by_cases hn : n = r.unit
   · subst hn
     rw [fset_self]
     have := hS.left r.unit
     have := Un.step_len (u := s.unit r.unit) (r := r) (n := s.recs.length + 1)
     omega
   rw [fset_ne hn]
   have := hS.left n; omega
 · simp only [St.add] at hn ⊢
   split
   · rename_i h0; rw [if_pos h0] at hn; exact hS.unseen n hn
   rename_i h0
   rw [if_neg h0] at hn
   by_cases he : n = r.unit
   · subst he
     rw [fset_self] at hn ⊢
     rw [Un.step_seen, Bool.or_eq_false_iff] at hn
     have h7 : r.kind = 7 := by simpa using hn.2
     rw [Un.step_note h7]
     exact hS.unseen _ hn.1
   rw [fset_ne he] at hn ⊢
   exact hS.unseen n hn
 · simp only [St.add]
   split
   · exact hS.zero
   rename_i h0
   rw [fset_ne (fun e => h0 e.symm)]
   exact hS.zero
 · simp only [St.add] at hn
   split at hn
   · exact hS.num n hn
   by_cases he : n = r.unit
   · subst he; exact hu
   rw [fset_ne he] at hn
   exact hS.num n hn
 simp only [St.add]
 split
 · exact hS.std n
 by_cases he : n = r.unit
 · subst he; rw [fset_self]; exact Un.step_std (hS.std _)
 rw [fset_ne he]; exact hS.std n
def St.mid (s : St) (r : Rc) : St where
 recs := s.recs
 page := if laysB r = true then (s.lay r).page else s.page
 stamp := if laysB r = true then (s.lay r).stamp else s.stamp
 unit := if r.unit = 0 then s.unit else fset s.unit r.unit ((s.unit r.unit).core r (s.recs.length + 1))
def St.put (s : St) (k : Int) (u : Un) : St := { s with unit := if k = 0 then s.unit else fset s.unit k u }
theorem fset_fset {α : Type} {f : Int → α} {k : Int} {v v' : α} : fset (fset f k v) k v' = fset f k v' := by
 funext x
 by_cases h : x = k
 · subst h; simp [fset_self]
 simp [fset_ne h]
theorem St.mid_add (s : St) (r : Rc) : { (s.mid r).put r.unit ((s.unit r.unit).step r (s.recs.length + 1)) with recs := s.recs ++ [r] } = s.add r := by
 unfold St.mid St.put St.add
 by_cases h : r.unit = 0
 · simp [h]
 simp [h, fset_fset]
theorem follows_g {s : St} {r : Rc} (h : (!validP r || ((r.unit == 0) != (r.kind == 6)) && !(r.kind == 7 && r.unit == 0)) = true) : s.follows r = false := by
 unfold St.follows
 cases hv : validP r with
 | false => rfl
 | true =>
   rw [hv] at h
   simp only [Bool.not_true, Bool.false_or] at h
   simp only [h]
   rfl
theorem follows_u {s : St} {r : Rc} (h0 : s.unit 0 = Un.new) (h : (decide ((s.unit r.unit).stands ≥ 2) || ((s.unit r.unit).stands == 1 && (r.kind == 1 || r.kind == 5))) = true) : s.follows r = false := by
 have hu : s.unitOk r = false := by simp only [St.unitOk, h]; rfl
 have hne : (r.unit == 0) = false := by
  cases he : r.unit == 0 with
  | false => rfl
  | true =>
    have he := eq_of_beq he
    rw [he, h0] at h
    simp [Un.new] at h
 unfold St.follows
 rw [hu, hne]
 simp
theorem follows_k {s : St} {r : Rc} (hg : (!validP r || ((r.unit == 0) != (r.kind == 6)) && !(r.kind == 7 && r.unit == 0)) = false) (hu : (decide ((s.unit r.unit).stands ≥ 2) || ((s.unit r.unit).stands == 1 && (r.kind == 1 || r.kind == 5))) = false) : s.follows r = s.kindOk r := by
 rw [Bool.or_eq_false_iff, Bool.not_eq_false'] at hg
 unfold St.follows
 rw [hg.1, hg.2, show s.unitOk r = true by simp only [St.unitOk, hu]; rfl]
 simp
theorem guard_unit {r : Rc} (hg : (!validP r || ((r.unit == 0) != (r.kind == 6)) && !(r.kind == 7 && r.unit == 0)) = false) (h6 : r.kind ≠ 6) (h7 : r.kind ≠ 7) : r.unit ≠ 0 := by
 rw [Bool.or_eq_false_iff] at hg
 intro h0
 have := hg.2
 simp [h0, h6, h7] at this
noncomputable def St.of : St → List Rc → Option St
 | s, [] => some s
 | s, r :: l => if s.follows r = true then (s.add r).of l else none
noncomputable def soundR (l : List Rc) : Bool := (St.new.of l).isSome
end Go.Vi
namespace Go.Vi
open Go Go.Vi Go.Proofs
attribute [local irreducible] vops vopsD vc
theorem el35 : elemAt Tryz.prog 35 = some (none, 3, 1) := by kernel_rfl
theorem el43b : elemAt Tryz.prog 43 = some (none, 93, 10) := by kernel_rfl
theorem sz93 : szOf Tryz.prog 93 = some 10 := by kernel_rfl
theorem zr93 : zrOf Tryz.prog 93 = some (.agg [.int .i64 0, .int .i64 0, .int .i64 0, .int .i64 0, .nils, .nils, .int .i64 0, .int .i64 0, .str ⟨#[]⟩, .nils]) := by kernel_rfl
def meetsW (w : Pst) (s : St) (r : Rc) : Bool := w.eu.any fun e => meetsAt s r e.1
structure MI (H : Hp) (w : Pst) (s : St) (own : Nat → Own) (r : Rc) (seen : List Nat) (Hx : Hp) : Prop where
 wr : WRep Hx w s own
 box : Hx[H.length]? = some (.arr 93 10 [r.row])
 it : Hx[H.length + 1]? = some (.iter w.lu w.eu.length seen)
 pre : ∀ l, l < H.length → Hx[l]? = H[l]?
 len : H.length + 2 ≤ Hx.length
section
variable {H Hx : Hp} {w : Pst} {s : St} {own : Nat → Own} {r : Rc} {seen : List Nat}
theorem MI.app (h : MI H w s own r seen Hx) (g : Hp) : MI H w s own r seen (Hx ++ g) :=
 ⟨h.wr.app g, get_app h.box, get_app h.it, fun l hl => by rw [List.getElem?_append_left (by have := h.len; omega)]; exact h.pre l hl, by have := h.len; simp; omega⟩
theorem MI.next (h : MI H w s own r seen Hx) (hn : own (H.length + 1) = .no) (j : Nat) : MI H w s own r (seen ++ [j]) (Hx.set (H.length + 1) (.iter w.lu w.eu.length (seen ++ [j]))) :=
 ⟨h.wr.set hn, get_set h.box (by omega), get_self h.it, fun l hl => by rw [List.getElem?_set_ne (by omega)]; exact h.pre l hl, by simpa using h.len⟩
theorem split_at {H Hx : Hp} (h : ∀ l, l < H.length → Hx[l]? = H[l]?) (hl : H.length ≤ Hx.length) : Hx = H ++ Hx.drop H.length := by
 apply List.ext_getElem?
 intro i
 by_cases hi : i < H.length
 · rw [List.getElem?_append_left hi]; exact h i hi
 rw [List.getElem?_append_right (by omega), List.getElem?_drop]; congr 1; omega
def leftN (n : Nat) (seen : List Nat) : Nat := ((List.range n).filter fun j => !seen.contains j).length
theorem leftN_lt {n j : Nat} {seen : List Nat} (hj : j < n) (hs : j ∉ seen) : leftN n (seen ++ [j]) < leftN n seen :=
 filter_lt (fun j => !seen.contains j) (fun i => !(seen ++ [j]).contains i) (fun x hx => by simp at hx ⊢; exact hx.1) j (by simpa using hs) (by simp) _ (List.mem_range.2 hj)
theorem left_at {l : Nat} {lv : AV} {u : Un} {k : Int} {n : Int} (h : UnIs H own n l lv u) {i : Nat} (hk : u.left[i]? = some k) : ∃ L rows0, lv = .row false L 0 u.left.length ∧ H[L]? = some (.arr 3 1 rows0) ∧ rows0[i]? = some [.int .i64 k] ∧ own L = .left n ∧ rows0.take u.left.length = u.left.map iRow := by
 have hi := (List.getElem?_eq_some_iff.1 hk).1
 rcases h.left with ⟨_, h2⟩ | ⟨L, rows0, h1, h2, h3, h4⟩
 · simp only [List.map_eq_nil_iff] at h2; rw [h2] at hi; simp at hi
 rw [List.length_map] at h1 h4
 refine ⟨L, rows0, h1, h3, ?_, h2, h4⟩
 have := congrArg (·[i]?) h4
 simp only [List.getElem?_take, hi, if_true, List.getElem?_map, hk, Option.map_some, iRow] at this
 exact this
theorem rec_at (h : WRep H w s own) {i : Nat} {c : Rc} (hc : s.recs[i]? = some c) : ∃ L rows0, w.rv = .row false L 0 s.recs.length ∧ H[L]? = some (.arr 93 10 rows0) ∧ rows0[i]? = some c.row := by
 have hi := (List.getElem?_eq_some_iff.1 hc).1
 rcases h.rh with ⟨_, h2⟩ | ⟨L, rows0, h1, h2, h3, h4⟩
 · simp only [List.map_eq_nil_iff] at h2; rw [h2] at hi; simp at hi
 rw [List.length_map] at h1 h4
 refine ⟨L, rows0, h1, h3, ?_⟩
 have := congrArg (·[i]?) h4
 simp only [List.getElem?_take, hi, if_true, List.getElem?_map, hc, Option.map_some] at this
 exact this
theorem un_len {P : Program} {t : TypeId} {l : Nat} {lv : AV} {u : Un} {n : Int} (h : UnIs H own n l lv u) (hu : P.underlying t = some (.slice 3)) : (vlen P H t lv).map (·, H) = some (.int .i64 u.left.length, H) := by
 have := GrowIs.len h.left hu
 rwa [List.length_map] at this
end
set_option maxHeartbeats 4000000 in
theorem sMeetsW (G : Glob) (H : Hp) (w : Pst) (s : St) (own : Nat → Own) (hW : WRep H w s own) (hS : StOk s) (r : Rc) (hr : r.Ok) (hi : r.In) : XS Tryz.prog G 143 [.ptr w.lw 0 0, .agg r.row] H (fun v H' => ∃ g, H' = H ++ g ∧ v.isVal = true ∧ v = .bool (meetsW w s r)) := by
 have hLb := hr.bef.1
 have hLa := hr.aft.1
 have hLo := hr.opn
 have hbb := hr.bef.2.1
 have hab := hr.aft.2.1
 have hxt := hr.txt
 have hlen := hr.len
 have hol : (lrows r.opn).length = r.opens.length := by rw [hr.rows]; simp
 have hp0 := hi.p0
 have hp1 := hi.p1
 have hna : r.na = (lrows r.aft).length := rfl
 have hno0 : own H.length = .no := hW.no
 have hno1 : own (H.length + 1) = .no := hW.fresh _ (by omega)
 have hI0 : MI H w s own r [] (H ++ [VO.arr 93 10 [r.row]] ++ [VO.iter w.lu w.eu.length []]) := ⟨(hW.app _).app _, get_app get_last, by rw [List.getElem?_append_right (by simp)]; simp, fun l hl => by rw [List.getElem?_append_left (by rw [List.length_append]; omega), List.getElem?_append_left hl], by simp⟩
 refine xs_body (fun o => match o.op with | .call ⟨.value _, _, _⟩ => .shr | _ => .iso) Tryz.func143 rfl ?_
 refine vc_norm (env' := (_ :: _ :: _ :: _ :: _ :: _ :: _ :: _ :: _ :: _ :: _ :: _ :: _ :: _ :: _ :: _ :: _ :: _ :: _ :: _ :: _ :: _ :: _ :: _ :: _ :: _ :: _ :: _ :: _ :: _ :: _ :: _ :: _ :: _ :: _ :: _ :: _ :: _ :: _ :: _ :: _ :: _ :: _ :: _ :: _ :: _ :: _ :: _ :: _ :: _ :: _ :: _ :: _ :: _ :: _ :: _ :: _ :: _ :: _ :: _ :: _ :: _ :: _ :: _ :: _ :: _ :: _ :: _ :: _ :: _ :: _ :: _ :: _ :: _ :: _ :: _ :: [])) (H' := _) rfl rfl ?_
 refine vs (wr ?_)
 refine w_opH (v := .ptr H.length 0 0) (env' := _) (H2 := H ++ [VO.arr 93 10 [r.row]]) rfl (g_box (x := .agg r.row) rfl rfl) rfl (rfl) (fun _ h => h) (v76 rfl ?_)
 refine wN rfl rfl rfl (v76 rfl ?_)
 refine we rfl (vs (vs (wr ?_)))
 refine wN (v := .ptr w.lw 0 0) rfl rfl rfl (v76 rfl ?_)
 iterate 2 refine wN rfl rfl rfl (v76 rfl ?_)
 refine wN (v := .mapr w.lu) rfl (g_load (get_app hW.wh) rfl rfl) rfl (v76 rfl ?_)
 refine w_opH (v := .ptr (H.length + 1) 0 0) (env' := _) (H2 := H ++ [VO.arr 93 10 [r.row]] ++ [VO.iter w.lu w.eu.length []]) rfl (g_range im189 (get_app hW.uh) (by simp)) rfl (rfl) (fun _ h => h) (v76 rfl ?_)
 refine we rfl (vc_block ?_)
 refine vc_loopX (α := { a : Hp × List Nat // MI H w s own r a.2 a.1 ∧ ∀ j ∈ a.2, ∀ e, w.eu[j]? = some e → meetsAt s r e.1 = false }) (fun a => (rnone 4 ++ ([some .undef, some .undef, some .undef, none, some .undef, some .undef] ++ (rnone 5 ++ (rundef 61))))) (fun a => a.1.1) (fun a => leftN w.eu.length a.1.2) ⟨(_, []), hI0, fun j hj => by cases hj⟩ (by repeat' first | exact trivial | refine ⟨.inr rfl, ?_⟩ | refine ⟨.inl rfl, ?_⟩ | fail) rfl ?_
 rintro ⟨⟨Hx, seen⟩, hI, hno⟩ Y0 hY0
 refine vc_norm (env' := (_ :: _ :: _ :: _ :: _ :: _ :: _ :: _ :: _ :: _ :: _ :: _ :: _ :: _ :: _ :: _ :: _ :: _ :: _ :: _ :: _ :: _ :: _ :: _ :: _ :: _ :: _ :: _ :: _ :: _ :: _ :: _ :: _ :: _ :: _ :: _ :: _ :: _ :: _ :: _ :: _ :: _ :: _ :: _ :: _ :: _ :: _ :: _ :: _ :: _ :: _ :: _ :: _ :: _ :: _ :: _ :: _ :: _ :: _ :: _ :: _ :: _ :: _ :: _ :: _ :: _ :: _ :: _ :: _ :: _ :: _ :: _ :: _ :: _ :: _ :: _ :: [])) (H' := Hx) rfl rfl ?_
 replace hI : MI H w s own r seen Hx := hI
 replace hno : ∀ j ∈ seen, ∀ e, w.eu[j]? = some e → meetsAt s r e.1 = false := hno
 refine vs (wr ?_)
 refine w_next rfl rfl hI.it hI.wr.uh rfl (fun hall15 => ?_) (fun j15 e15 hj15 hs15 => ?_)
 ·
  have hin : ∀ e ∈ w.eu, meetsAt s r e.1 = false := fun e he => by
   obtain ⟨j, hj⟩ := List.mem_iff_getElem?.1 he
   exact hno j (hall15 j (List.getElem?_eq_some_iff.1 hj).1) e hj
  refine v76 rfl ?_
  refine wN rfl rfl rfl (v76 rfl ?_)
  refine we rfl (vs ?_)
  refine vc_false rfl ?_
  refine vc_exit (x_then (x_then (x_same (n_then (vs (wr ?_))))))
  refine wN rfl rfl rfl (v76 rfl ?_)
  refine we rfl (vc_ret (r_fn rfl ?_))
  refine ⟨_, split_at hI.pre (by have := hI.len; omega), rfl, ?_⟩
  have : meetsW w s r = false := List.any_eq_false.2 fun e he => by simp [hin e he]
  rw [this]
 obtain ⟨k, v⟩ := e15
 have hI2 := hI.next hno1 j15
 have hg := mget_at hI.wr.nd hj15
 rcases hI.wr.un k with ⟨h1, _⟩ | ⟨l, lv, h1, ho, hu0⟩
 · rw [hg] at h1; cases h1
 rw [hg] at h1
 obtain rfl : v = .ptr l 0 0 := by simpa using h1
 have hu : UnIs (Hx.set (H.length + 1) (.iter w.lu w.eu.length (seen ++ [j15]))) own k l lv (s.unit k) := (same_set hno1 : Same (fun t => t = .no) Hx own _ own).un ho (by simp) (by simp) hu0 |>.2
 have he2 : (ventry (Hx.set (H.length + 1) (.iter w.lu w.eu.length (seen ++ [j15]))) (.ptr (H.length + 1) 0 0)).map (·, Hx.set (H.length + 1) (.iter w.lu w.eu.length (seen ++ [j15]))) = some (.tup [.int .i64 k, .ptr l 0 0], Hx.set (H.length + 1) (.iter w.lu w.eu.length (seen ++ [j15]))) := by
  simp only [ventry, hI2.it, List.getLast?_append, List.getLast?_singleton, Option.some_or, hI2.wr.uh, if_true, hj15, Option.map_some]
 have hlj := (List.getElem?_eq_some_iff.1 hj15).1
 generalize (Hx.set (H.length + 1) (.iter w.lu w.eu.length (seen ++ [j15]))) = H2 at hI2 hu he2 ⊢
 refine v76 rfl ?_
 refine wN rfl rfl rfl (v76 rfl ?_)
 refine we rfl (vs ?_)
 refine vc_true rfl ?_
 refine vc_skip (n_then (vc_block (vs (wr ?_))))
 refine wN (v := .tup [.int .i64 k, .ptr l 0 0]) rfl (he2) rfl (v76 rfl ?_)
 iterate 4 refine wN rfl rfl rfl (v76 rfl ?_)
 refine we rfl (vs (vs (wr ?_)))
 refine wN rfl rfl rfl (v76 rfl ?_)
 refine wN (v := .ptr H.length 0 1) rfl rfl rfl (v76 rfl ?_)
 refine wN (v := .int .i64 r.unit) rfl (g_load hI2.box rfl rfl) rfl (v76 rfl ?_)
 iterate 2 refine wN rfl rfl rfl (v76 rfl ?_)
 apply w_or 6 24 (fun b => (rnone 24 ++ (rundef 6 ++ ([some (.bool b)] ++ (rnone 45))))) rfl
 ·
  intro hg24 hY24
  refine v76 rfl ?_
  iterate 5 refine wS (wanted_f 24 (by kernel_rfl) rfl) (v76 rfl ?_)
  refine wN rfl rfl rfl (v76 rfl ?_)
  refine hY24 _ ?_
  repeat' first | exact trivial | refine ⟨.inr rfl, ?_⟩ | refine ⟨.inl rfl, ?_⟩ | fail
 ·
  intro hg24 hY24
  refine v76 rfl ?_
  iterate 3 refine wN (wanted_t 24 (by kernel_rfl) rfl) rfl rfl (v76 rfl ?_)
  refine wN (v := .int .i64 (s.unit k).stands) (wanted_t 24 (by kernel_rfl) rfl) (g_load hu.obj rfl rfl) rfl (v76 rfl ?_)
  refine wN (wanted_t 24 (by kernel_rfl) rfl) rfl rfl (v76 rfl ?_)
  refine wN rfl rfl rfl (v76 rfl ?_)
  refine hY24 _ ?_
  repeat' first | exact trivial | refine ⟨.inr rfl, ?_⟩ | refine ⟨.inl rfl, ?_⟩ | fail
 refine v76 rfl ?_
 refine we rfl ?_
 refine vc_cond rfl (fun hc30 => ?_) (fun hc30 => ?_)
 ·
  have hmk : meetsAt s r k = false := by simp only [meetsAt]; rw [show (k == r.unit || decide ((s.unit k).stands > 1)) = true from hc30]; rfl
  refine vc_exit (x_then (x_same (n_then ?_)))
  refine hY0 ⟨(H2, seen ++ [j15]), hI2, fun j hj e he => by rcases List.mem_append.1 hj with hj | hj; exact hno j hj e he; simp at hj; subst hj; rw [hj15] at he; cases he; exact hmk⟩ (by exact leftN_lt hlj hs15) _ _ ?_ rfl
  repeat' first | exact trivial | refine ⟨.inr rfl, ?_⟩ | refine ⟨.inl rfl, ?_⟩ | refine ⟨.inl ?_, ?_⟩ | fail
 refine vc_skip (n_then (vs (wr ?_)))
 iterate 3 refine wN rfl rfl rfl (v76 rfl ?_)
 refine wN (v := lv) rfl (g_load hu.obj rfl rfl) rfl (v76 rfl ?_)
 refine wN (v := .int .i64 (s.unit k).left.length) rfl (un_len hu Tryz.underlying35) rfl (v76 rfl ?_)
 refine wN rfl rfl rfl (v76 rfl ?_)
 refine we rfl (vc_block ?_)
 refine vc_loopX (α := { a : Nat × Hp // MI H w s own r (seen ++ [j15]) a.2 ∧ Same (fun _ => False) H2 own a.2 own ∧ a.1 ≤ (s.unit k).left.length ∧ ∀ i, i < a.1 → ∀ x, (s.unit k).left[i]? = some x → meetsL s r x = false }) (fun a => (rnone 4 ++ ([some .undef, none, none, none, some .undef, some .undef] ++ (rnone 26 ++ ([some (.int .i64 (a.1.1 : Nat))] ++ (rundef 39)))))) (fun a => a.1.2) (fun a => (s.unit k).left.length - a.1.1) ⟨(0, H2), hI2, ⟨Nat.le_refl _, fun _ _ _ => rfl, fun _ _ => rfl⟩, Nat.zero_le _, fun i h => by omega⟩ (by repeat' first | exact trivial | refine ⟨.inr rfl, ?_⟩ | refine ⟨.inl rfl, ?_⟩ | fail) rfl ?_
 rintro ⟨⟨i, Hy⟩, hJ, hsm, hil, hnm⟩ Y1 hY1
 refine vc_norm (env' := (_ :: _ :: _ :: _ :: _ :: _ :: _ :: _ :: _ :: _ :: _ :: _ :: _ :: _ :: _ :: _ :: _ :: _ :: _ :: _ :: _ :: _ :: _ :: _ :: _ :: _ :: _ :: _ :: _ :: _ :: _ :: _ :: _ :: _ :: _ :: _ :: (.int .i64 (i : Int)) :: _ :: _ :: _ :: _ :: _ :: _ :: _ :: _ :: _ :: _ :: _ :: _ :: _ :: _ :: _ :: _ :: _ :: _ :: _ :: _ :: _ :: _ :: _ :: _ :: _ :: _ :: _ :: _ :: _ :: _ :: _ :: _ :: _ :: _ :: _ :: _ :: _ :: _ :: _ :: [])) (H' := Hy) rfl rfl ?_
 replace hJ : MI H w s own r (seen ++ [j15]) Hy := hJ
 replace hsm : Same (fun _ => False) H2 own Hy own := hsm
 replace hil : i ≤ (s.unit k).left.length := hil
 replace hnm : ∀ z, z < i → ∀ x, (s.unit k).left[z]? = some x → meetsL s r x = false := hnm
 refine vs (wr ?_)
 refine wN rfl rfl rfl (v76 rfl ?_)
 refine we rfl (vs ?_)
 refine vc_cond rfl (fun hc37 => ?_) (fun hc37 => ?_)
 ·
  have hlt : i < (s.unit k).left.length := by have := of_decide_eq_true hc37; omega
  obtain ⟨q, hq⟩ : ∃ q, (s.unit k).left[i]? = some q := ⟨_, List.getElem?_eq_getElem hlt⟩
  have huy : UnIs Hy own k l lv (s.unit k) := hsm.un ho (by simp) (by simp) hu |>.2
  obtain ⟨L, rows0, rfl, hL1, hL2, _, _⟩ := left_at huy hq
  have hqb := hS.lft k q (List.mem_of_getElem? hq)
  have hlb := hS.left k
  have hsl := hS.len
  obtain ⟨c, hc⟩ : ∃ c, s.recs[(q - 1).toNat]? = some c := ⟨_, List.getElem?_eq_getElem (by omega)⟩
  have hcm := List.mem_of_getElem? hc
  have hcO := hW.rok c hcm
  have hcI := hS.rin c hcm
  have hcp0 := hcI.p0
  have hcp1 := hcI.p1
  have hcna : c.na = (lrows c.aft).length := rfl
  have hLc := hcO.aft.1
  obtain ⟨Lr, rowsR, hRv, hR1, hR2⟩ := rec_at hJ.wr hc
  have hc0 : (Hy ++ [VO.arr 93 10 [c.row]])[Hy.length]? = some (.arr 93 10 [c.row]) := get_last
  have hb0 : (Hy ++ [VO.arr 93 10 [c.row]])[H.length]? = some (VO.arr 93 10 [r.row]) := get_app hJ.box
  refine vc_skip (n_then (vs (vc_block (vs (wr ?_)))))
  refine wN (v := .ptr L i 0) rfl (g_index0 el35 hL1 (by omega) (by omega)) rfl (v76 rfl ?_)
  refine wN (v := .int .i64 q) rfl (g_load hL1 hL2 rfl) rfl (v76 rfl ?_)
  refine wN rfl rfl rfl (v76 rfl ?_)
  refine we rfl (vs (wr ?_))
  refine wN (v := .ptr w.lw 0 0) rfl rfl rfl (v76 rfl ?_)
  iterate 2 refine wN rfl rfl rfl (v76 rfl ?_)
  refine wN (v := w.rv) rfl (g_load hJ.wr.wh rfl rfl) rfl (v76 rfl ?_)
  refine wN rfl rfl rfl (v76 rfl ?_)
  refine wN (v := .int .i64 (q - 1)) rfl (int_eq (i64_small (by omega) (by omega))) rfl (v76 rfl ?_)
  refine wN (v := .ptr Lr (q - 1).toNat 0) rfl ((by rw [hRv]; exact g_index0 el43b hR1 (by omega) (by omega))) rfl (v76 rfl ?_)
  refine wN (v := .agg c.row) rfl (g_load hR1 hR2 rfl) rfl (v76 rfl ?_)
  refine w_opH (v := .ptr Hy.length 0 0) (env' := _) (H2 := Hy ++ [VO.arr 93 10 [[.int .i64 0, .int .i64 0, .int .i64 0, .int .i64 0, .nils, .nils, .int .i64 0, .int .i64 0, .str ⟨#[]⟩, .nils]]]) rfl (g_alloc zr93 rfl rfl) rfl (rfl) (fun _ h => h) (v76 rfl ?_)
  refine w_op0N (H2 := Hy ++ [VO.arr 93 10 [c.row]]) rfl (g_store get_last rfl rfl sz93 ⟨rfl, by simp, by decide⟩) (set_last) (fun _ h => h) ?_
  refine we rfl (vs (wr ?_))
  refine wN (v := .ptr Hy.length 0 2) rfl rfl rfl (v76 rfl ?_)
  refine wN (v := .int .i64 c.page) rfl (g_load hc0 rfl rfl) rfl (v76 rfl ?_)
  refine wN (v := .ptr H.length 0 2) rfl rfl rfl (v76 rfl ?_)
  refine wN (v := .int .i64 r.page) rfl (g_load hb0 rfl rfl) rfl (v76 rfl ?_)
  iterate 2 refine wN rfl rfl rfl (v76 rfl ?_)
  apply w_and 10 53 (fun b => (rnone 53 ++ (rundef 10 ++ ([some (.bool b)] ++ (rnone 12))))) rfl
  ·
   intro hg53 hY53
   refine v76 rfl ?_
   refine wN (v := .ptr Hy.length 0 3) (wanted_t 53 (by kernel_rfl) rfl) rfl rfl (v76 rfl ?_)
   refine wN (v := .int .i64 c.pos) (wanted_t 53 (by kernel_rfl) rfl) (g_load hc0 rfl rfl) rfl (v76 rfl ?_)
   refine wN (v := .ptr H.length 0 3) (wanted_t 53 (by kernel_rfl) rfl) rfl rfl (v76 rfl ?_)
   refine wN (v := .int .i64 r.pos) (wanted_t 53 (by kernel_rfl) rfl) (g_load hb0 rfl rfl) rfl (v76 rfl ?_)
   refine wN (v := .ptr H.length 0 5) (wanted_t 53 (by kernel_rfl) rfl) rfl rfl (v76 rfl ?_)
   refine wN (v := r.aft) (wanted_t 53 (by kernel_rfl) rfl) (g_load hb0 rfl rfl) rfl (v76 rfl ?_)
   first | refine wN (wanted_t 53 (by kernel_rfl) rfl) rfl rfl (v76 rfl ?_) | refine x_len (wanted_t 53 (by kernel_rfl) rfl) rfl ‹_› Tryz.underlying68 rfl (v76 rfl ?_)
   refine wN (v := .int .i64 (r.pos + (r.na : Int))) (wanted_t 53 (by kernel_rfl) rfl) (int_eq (i64_small (by omega) (by omega))) rfl (v76 rfl ?_)
   refine wN (wanted_t 53 (by kernel_rfl) rfl) rfl rfl (v76 rfl ?_)
   refine wN rfl rfl rfl (v76 rfl ?_)
   refine hY53 _ ?_
   repeat' first | exact trivial | refine ⟨.inr rfl, ?_⟩ | refine ⟨.inl rfl, ?_⟩ | fail
  ·
   intro hg53 hY53
   refine v76 rfl ?_
   iterate 9 refine wS (wanted_f 53 (by kernel_rfl) rfl) (v76 rfl ?_)
   refine wN rfl rfl rfl (v76 rfl ?_)
   refine hY53 _ ?_
   repeat' first | exact trivial | refine ⟨.inr rfl, ?_⟩ | refine ⟨.inl rfl, ?_⟩ | fail
  refine v76 rfl ?_
  refine wN rfl rfl rfl (v76 rfl ?_)
  apply w_and 10 64 (fun b => (rnone 64 ++ (rundef 10 ++ ([some (.bool b), none])))) rfl
  ·
   intro hg64 hY64
   refine v76 rfl ?_
   refine wN (v := .ptr H.length 0 3) (wanted_t 64 (by kernel_rfl) rfl) rfl rfl (v76 rfl ?_)
   refine wN (v := .int .i64 r.pos) (wanted_t 64 (by kernel_rfl) rfl) (g_load hb0 rfl rfl) rfl (v76 rfl ?_)
   refine wN (v := .ptr Hy.length 0 3) (wanted_t 64 (by kernel_rfl) rfl) rfl rfl (v76 rfl ?_)
   refine wN (v := .int .i64 c.pos) (wanted_t 64 (by kernel_rfl) rfl) (g_load hc0 rfl rfl) rfl (v76 rfl ?_)
   refine wN (v := .ptr Hy.length 0 5) (wanted_t 64 (by kernel_rfl) rfl) rfl rfl (v76 rfl ?_)
   refine wN (v := c.aft) (wanted_t 64 (by kernel_rfl) rfl) (g_load hc0 rfl rfl) rfl (v76 rfl ?_)
   first | refine wN (wanted_t 64 (by kernel_rfl) rfl) rfl rfl (v76 rfl ?_) | refine x_len (wanted_t 64 (by kernel_rfl) rfl) rfl ‹_› Tryz.underlying68 rfl (v76 rfl ?_)
   refine wN (v := .int .i64 (c.pos + (c.na : Int))) (wanted_t 64 (by kernel_rfl) rfl) (int_eq (i64_small (by omega) (by omega))) rfl (v76 rfl ?_)
   refine wN (wanted_t 64 (by kernel_rfl) rfl) rfl rfl (v76 rfl ?_)
   refine wN rfl rfl rfl (v76 rfl ?_)
   refine hY64 _ ?_
   repeat' first | exact trivial | refine ⟨.inr rfl, ?_⟩ | refine ⟨.inl rfl, ?_⟩ | fail
  ·
   intro hg64 hY64
   refine v76 rfl ?_
   iterate 9 refine wS (wanted_f 64 (by kernel_rfl) rfl) (v76 rfl ?_)
   refine wN rfl rfl rfl (v76 rfl ?_)
   refine hY64 _ ?_
   repeat' first | exact trivial | refine ⟨.inr rfl, ?_⟩ | refine ⟨.inl rfl, ?_⟩ | fail
  refine v76 rfl ?_
  refine we rfl ?_
  refine vc_cond rfl (fun hc74 => ?_) (fun hc74 => ?_)
  ·
   have hmt : meetsL s r q = true := by simp only [meetsL, hc]; exact hc74
   refine vs (wr ?_)
   refine wN rfl rfl rfl (v76 rfl ?_)
   refine we rfl (vc_ret (r_block (r_then (r_then (r_block (r_block (r_then (r_block (r_then (r_fn rfl ?_))))))))))
   have hI3 := hJ.app [VO.arr 93 10 [c.row]]
   refine ⟨_, split_at hI3.pre (by have := hI3.len; omega), rfl, ?_⟩
   have : meetsW w s r = true := List.any_eq_true.2 ⟨_, List.mem_of_getElem? hj15, by simp only [meetsAt, Bool.and_eq_true]; exact ⟨by rw [show (k == r.unit || decide ((s.unit k).stands > 1)) = false from hc30]; rfl, List.any_eq_true.2 ⟨q, List.mem_of_getElem? hq, hmt⟩⟩⟩
   rw [this]
  have hmf : meetsL s r q = false := by simp only [meetsL, hc]; exact hc74
  refine vc_skip (n_block (n_then (wr ?_)))
  iterate 2 refine wN rfl rfl rfl (v76 rfl ?_)
  refine we rfl ?_
  refine hY1 ⟨(i + 1, _), hJ.app [VO.arr 93 10 [c.row]], ⟨by have := hsm.len; simp; omega, fun l hl hn => by rw [List.getElem?_append_left (by have := hsm.len; omega)]; exact hsm.keep l hl hn, fun _ _ => rfl⟩, hlt, fun z hz x hx => by by_cases e : z = i; subst e; rw [hq] at hx; cases hx; exact hmf; exact hnm z (by omega) x hx⟩ (by simp only; omega) _ _ ?_ rfl
  repeat' first | exact trivial | refine ⟨.inr rfl, ?_⟩ | refine ⟨.inl rfl, ?_⟩ | refine ⟨.inl ?_, ?_⟩ | fail
  all_goals first | exact (int_succ (by omega)).symm
 have hge : (s.unit k).left.length ≤ i := by have := of_decide_eq_false hc37; omega
 have hmk : meetsAt s r k = false := by
  simp only [meetsAt, Bool.and_eq_false_iff]
  right
  rw [List.any_eq_false]
  intro x hx
  obtain ⟨z, hz⟩ := List.mem_iff_getElem?.1 hx
  have := hnm z (by have := (List.getElem?_eq_some_iff.1 hz).1; omega) x hz
  simp [this]
 refine vc_exit (x_then (x_then (x_same (n_block (n_then ?_)))))
 refine hY0 ⟨(Hy, seen ++ [j15]), hJ, fun j hj e he => by rcases List.mem_append.1 hj with hj | hj; exact hno j hj e he; simp at hj; subst hj; rw [hj15] at he; cases he; exact hmk⟩ (by exact leftN_lt hlj hs15) _ _ ?_ rfl
 repeat' first | exact trivial | refine ⟨.inr rfl, ?_⟩ | refine ⟨.inl rfl, ?_⟩ | refine ⟨.inl ?_, ?_⟩ | fail
theorem sMeets (G : Glob) (H : Hp) (w : Pst) (s : St) (own : Nat → Own) (hW : WRep H w s own) (hS : StOk s) (r : Rc) (hr : r.Ok) (hi : r.In) : XS Tryz.prog G 143 [.ptr w.lw 0 0, .agg r.row] H (fun v H' => v = .bool (meetsW w s r) ∧ H' = H) :=
 XS.strip ((sMeetsW G H w s own hW hS r hr hi).mono fun v H' ⟨g, h1, h2, h3⟩ => ⟨g, h1, h2, h3, rfl⟩)
end Go.Vi
namespace Go.Proofs
open Go.Shelf
def Tryz.keysA_ren : Go.Shelf.Ren := ⟨fun | 7 => 171 | 10 => 178 | n => n, fun | 23 => 189 | 26 => 3 | 3 => 192 | 28 => 217 | 0 => 0 | 27 => 216 | 33 => 115 | 4 => 4 | n => n, fun | n => n⟩
theorem Tryz.keysA : Go.Proofs.SlLaysZI.n7 Tryz.prog Tryz.keysA_ren := {
 mixed := by kernel_rfl
 f7 := ⟨Tryz.f171.name, by decide, Tryz.func171.trans (congrArg some (by kernel_rfl))⟩
 f10 := ⟨Tryz.f178.name, by decide, Tryz.func178.trans (congrArg some (by kernel_rfl))⟩
 t0 := Tryz.underlying0
 a0 := Tryz.isAgg0
 z0 := Tryz.sizeOf0
 v0 := Tryz.zeroValue0
 t4 := Tryz.underlying4
 a4 := Tryz.isAgg4
 z4 := Tryz.sizeOf4
 v4 := Tryz.zeroValue4
 t23 := Tryz.underlying189
 a23 := Tryz.isAgg189
 z23 := Tryz.sizeOf189
 v23 := Tryz.zeroValue189
 t26 := Tryz.underlying3
 a26 := Tryz.isAgg3
 z26 := Tryz.sizeOf3
 v26 := Tryz.zeroValue3
 t27 := Tryz.underlying216
 a27 := Tryz.isAgg216
 z27 := Tryz.sizeOf216
 v27 := Tryz.zeroValue216
 t28 := Tryz.underlying217
 a28 := Tryz.isAgg217
 z28 := Tryz.sizeOf217
 v28 := Tryz.zeroValue217
 t33 := Tryz.underlying115
 a33 := Tryz.isAgg115
 z33 := Tryz.sizeOf115
 v33 := Tryz.zeroValue115 }
def Tryz.sortedA_ren : Go.Shelf.Ren := ⟨fun | 6 => 170 | 8 => 176 | 9 => 177 | 11 => 179 | 13 => 181 | 12 => 180 | 23 => 191 | 24 => 156 | 14 => 182 | 15 => 183 | 16 => 184 | 17 => 185 | 18 => 186 | 19 => 187 | 20 => 188 | 21 => 189 | 22 => 190 | 25 => 192 | 26 => 193 | 27 => 194 | 28 => 195 | 29 => 196 | 30 => 197 | 31 => 198 | n => n, fun | 26 => 3 | 28 => 217 | 24 => 35 | 0 => 0 | 3 => 3 | 37 => 122 | 48 => 206 | 50 => 177 | 4 => 4 | 40 => 233 | 39 => 232 | 45 => 238 | 5 => 5 | 9 => 9 | 51 => 240 | 55 => 244 | 57 => 246 | 58 => 247 | 33 => 115 | n => n, fun | n => n⟩
theorem Tryz.sortedA : Go.Proofs.SlLaysZI.n6 Tryz.prog Tryz.sortedA_ren := {
 mixed := by kernel_rfl
 f6 := ⟨Tryz.f170.name, by decide, Tryz.func170.trans (congrArg some (by kernel_rfl))⟩
 f8 := ⟨Tryz.f176.name, by decide, Tryz.func176.trans (congrArg some (by kernel_rfl))⟩
 f11 := ⟨Tryz.f179.name, by decide, Tryz.func179.trans (congrArg some (by kernel_rfl))⟩
 t0 := Tryz.underlying0
 a0 := Tryz.isAgg0
 z0 := Tryz.sizeOf0
 v0 := Tryz.zeroValue0
 t24 := Tryz.underlying35
 a24 := Tryz.isAgg35
 z24 := Tryz.sizeOf35
 v24 := Tryz.zeroValue35
 t26 := Tryz.underlying3
 a26 := Tryz.isAgg3
 z26 := Tryz.sizeOf3
 v26 := Tryz.zeroValue3
 t28 := Tryz.underlying217
 a28 := Tryz.isAgg217
 z28 := Tryz.sizeOf217
 v28 := Tryz.zeroValue217
 i26 := by kernel_rfl }
def Tryz.sortA_ren : Go.Shelf.Ren := ⟨fun | 5 => 177 | 8 => 181 | 7 => 180 | 19 => 191 | 20 => 156 | 10 => 182 | 11 => 183 | 12 => 184 | 13 => 185 | 14 => 186 | 15 => 187 | 16 => 188 | 17 => 189 | 18 => 190 | 30 => 192 | 31 => 193 | 32 => 194 | 33 => 195 | 34 => 196 | 35 => 197 | 40 => 198 | n => n, fun | 23 => 35 | 25 => 3 | 3 => 3 | 32 => 122 | 22 => 35 | 0 => 0 | 44 => 206 | 46 => 177 | 4 => 4 | 36 => 233 | 35 => 232 | 41 => 238 | 5 => 5 | 9 => 9 | 53 => 240 | 57 => 244 | 63 => 246 | 64 => 247 | n => n, fun | n => n⟩
theorem Tryz.sortA : Go.Proofs.SlLaysM.n5 Tryz.prog Tryz.sortA_ren := {
 mixed := by kernel_rfl
 f5 := ⟨Tryz.f177.name, by decide, Tryz.func177.trans (congrArg some (by kernel_rfl))⟩
 f7 := ⟨Tryz.f180.name, by decide, Tryz.func180.trans (congrArg some (by kernel_rfl))⟩
 f8 := Tryz.func181.trans (congrArg some (by kernel_rfl))
 f10 := ⟨Tryz.f182.name, by decide, Tryz.func182.trans (congrArg some (by kernel_rfl))⟩
 f11 := ⟨Tryz.f183.name, by decide, Tryz.func183.trans (congrArg some (by kernel_rfl))⟩
 f12 := ⟨Tryz.f184.name, by decide, Tryz.func184.trans (congrArg some (by kernel_rfl))⟩
 f13 := ⟨Tryz.f185.name, by decide, Tryz.func185.trans (congrArg some (by kernel_rfl))⟩
 f14 := ⟨Tryz.f186.name, by decide, Tryz.func186.trans (congrArg some (by kernel_rfl))⟩
 f15 := ⟨Tryz.f187.name, by decide, Tryz.func187.trans (congrArg some (by kernel_rfl))⟩
 f16 := ⟨Tryz.f188.name, by decide, Tryz.func188.trans (congrArg some (by kernel_rfl))⟩
 f17 := ⟨Tryz.f189.name, by decide, Tryz.func189.trans (congrArg some (by kernel_rfl))⟩
 f18 := ⟨Tryz.f190.name, by decide, Tryz.func190.trans (congrArg some (by kernel_rfl))⟩
 f19 := Tryz.func191.trans (congrArg some (by kernel_rfl))
 f20 := Tryz.func156.trans (congrArg some (by kernel_rfl))
 f30 := ⟨Tryz.f192.name, by decide, Tryz.func192.trans (congrArg some (by kernel_rfl))⟩
 f31 := Tryz.func193.trans (congrArg some (by kernel_rfl))
 f32 := Tryz.func194.trans (congrArg some (by kernel_rfl))
 f33 := ⟨Tryz.f195.name, by decide, Tryz.func195.trans (congrArg some (by kernel_rfl))⟩
 f34 := ⟨Tryz.f196.name, by decide, Tryz.func196.trans (congrArg some (by kernel_rfl))⟩
 f35 := ⟨Tryz.f197.name, by decide, Tryz.func197.trans (congrArg some (by kernel_rfl))⟩
 f40 := ⟨Tryz.f198.name, by decide, Tryz.func198.trans (congrArg some (by kernel_rfl))⟩
 t0 := Tryz.underlying0
 a0 := Tryz.isAgg0
 z0 := Tryz.sizeOf0
 v0 := Tryz.zeroValue0
 t3 := Tryz.underlying3
 a3 := Tryz.isAgg3
 z3 := Tryz.sizeOf3
 v3 := Tryz.zeroValue3
 t4 := Tryz.underlying4
 a4 := Tryz.isAgg4
 z4 := Tryz.sizeOf4
 v4 := Tryz.zeroValue4
 t5 := Tryz.underlying5
 a5 := Tryz.isAgg5
 z5 := Tryz.sizeOf5
 v5 := Tryz.zeroValue5
 t9 := Tryz.underlying9
 a9 := Tryz.isAgg9
 z9 := Tryz.sizeOf9
 v9 := Tryz.zeroValue9
 t22 := Tryz.underlying35
 a22 := Tryz.isAgg35
 z22 := Tryz.sizeOf35
 v22 := Tryz.zeroValue35
 t23 := Tryz.underlying35
 a23 := Tryz.isAgg35
 z23 := Tryz.sizeOf35
 v23 := Tryz.zeroValue35
 t25 := Tryz.underlying3
 a25 := Tryz.isAgg3
 z25 := Tryz.sizeOf3
 v25 := Tryz.zeroValue3
 t32 := Tryz.underlying122
 a32 := Tryz.isAgg122
 z32 := Tryz.sizeOf122
 v32 := Tryz.zeroValue122
 t35 := Tryz.underlying232
 a35 := Tryz.isAgg232
 z35 := Tryz.sizeOf232
 v35 := Tryz.zeroValue232
 t36 := Tryz.underlying233
 a36 := Tryz.isAgg233
 z36 := Tryz.sizeOf233
 v36 := Tryz.zeroValue233
 t41 := Tryz.underlying238
 a41 := Tryz.isAgg238
 z41 := Tryz.sizeOf238
 v41 := Tryz.zeroValue238
 t44 := Tryz.underlying206
 a44 := Tryz.isAgg206
 z44 := Tryz.sizeOf206
 v44 := Tryz.zeroValue206
 t46 := Tryz.underlying177
 a46 := Tryz.isAgg177
 z46 := Tryz.sizeOf177
 v46 := Tryz.zeroValue177
 t53 := Tryz.underlying240
 a53 := Tryz.isAgg240
 z53 := Tryz.sizeOf240
 v53 := Tryz.zeroValue240
 t57 := Tryz.underlying244
 a57 := Tryz.isAgg244
 z57 := Tryz.sizeOf244
 v57 := Tryz.zeroValue244
 t63 := Tryz.underlying246
 a63 := Tryz.isAgg246
 z63 := Tryz.sizeOf246
 v63 := Tryz.zeroValue246
 t64 := Tryz.underlying247
 a64 := Tryz.isAgg247
 z64 := Tryz.sizeOf247
 v64 := Tryz.zeroValue247 }
end Go.Proofs
namespace Go.Vi
open Go Go.Proofs Go.RowKit Go.Maps Go.Sort Go.Shelf
theorem To.grown {c : Cx} {H : Hp} (s : Sim c H) {w' : World} (N : Nat → Prop) (hN : ∀ b, N b → c.w.heap.size ≤ b ∧ b < w'.heap.size) (hsz : c.w.heap.size ≤ w'.heap.size) (hh : ∀ b, b < c.w.heap.size → w'.heap[b]? = c.w.heap[b]?) (h1 : w'.os = c.w.os) (h2 : w'.tape = c.w.tape) (h3 : w'.output = c.w.output) :
 To c H { c with w := w', I := fun b => c.I b ∨ N b } H := by
 have m : Mono c { c with w := w', I := fun b => c.I b ∨ N b } := ⟨fun _ h => .inl h, fun _ h => h, fun _ _ h => h, fun b h => hh b (h.elim (s.bound b) (s.boundB b))⟩
 refine ⟨⟨m, hsz, fun b hb _ => hh b hb, fun b h => h.elim .inl (fun e => .inr (.inl (hN b e).1)), fun _ => Iff.rfl, fun _ _ h => .inl h, h1, h2, h3⟩, ⟨fun b hb => ?_, fun b hb => ?_, fun l o h => ?_, s.inj, s.fresh⟩, Nat.le_refl _, fun _ _ h => h⟩
 · show b < w'.heap.size
   rcases hb with hb | hb
   · have := s.bound b hb; omega
   exact (hN b hb).2
 · show b < w'.heap.size
   have := s.boundB b hb; omega
 refine (s.obj l o h).keep m (fun cl hr hv hi => ?_) (fun _ h => h) (fun cl hr hv => hh _ (s.lt (live_of h hv) hr))
 rcases hi with hi | hi
 · exact hi
 have := s.lt (live_of h hv) hr; have := (hN _ hi).1; omega
theorem kSorts (m : Nat) : AnyZI.SortsIn Tryz.prog Tryz.sortedA_ren Fence.wide m :=
 ⟨fun blk off cap ss W hH hblk hsz => callsIn_wide.2 (AnyM.slices_Sort_int Tryz.sortA blk off cap ss W hH hblk hsz),
  fun p cap W => callsIn_wide.2 (AnyM.slices_Sort_int_none Tryz.sortA p cap W)⟩
theorem kKeys (mb : Option Nat) (W : World) : Calls Tryz.prog 171 #[.map mb] W fun e w' => e = .returned (.func (.func 178) #[] #[.pointer (some ⟨W.heap.size, 0, none⟩)]) ∧ w' = W.alloc (.cells #[.map mb] 189) :=
 (callsIn_wide (n := 6)).1 (AnyZI.keys_in Tryz.keysA Fence.wide 6 trivial rfl mb W)
theorem kSorted {H : Type} (Bm b nn : Nat) (D0 : DataW H) (R : Value → Option (DataW H × List MemPlace)) (w : World) (hBm : Bm < w.heap.size) (hm : w.cell? ⟨Bm, 0, none⟩ = some (.map (some b))) (hown : w.ownsMap Tryz.prog 3 R b nn D0) (hmax : Maps.size D0 ≤ maxLen) (hbytes : Maps.size D0 * 8 ≤ 140737488355328) :
 Calls Tryz.prog 170 #[.func (.func 178) #[] #[.pointer (some ⟨Bm, 0, none⟩)]] w fun e w' => ∃ (v : Value) (ss : List Int), e = .returned v ∧ ss.Perm (intKeys D0) ∧
  w'.ownsRow w.heap.size 3 1 v ss.length ((ss.mergeSort (fun x y => decide (x ≤ y))).map encZ) ∧ (v = .slice none 0 0 ↔ ss = []) ∧ Below w.heap.size w w' := by
 have hseq : SeqGives Fence.wide 2 Tryz.prog 178 #[.pointer (some ⟨Bm, 0, none⟩)] encZ (fun ss => ss.Perm (intKeys D0)) (Maps.size D0) w :=
  AnyZI.keys_gives (ρ := Tryz.keysA_ren) { Tryz.keysA with } Fence.wide _ trivial rfl (by omega) Bm b nn D0 _ hBm hm hown
 have cS := AnyZI.sorted_in Tryz.sortedA Fence.wide 5 trivial trivial trivial trivial rfl (by omega) (kSorts _) (enters_of Tryz.func177 (by kernel_rfl) rfl) 178 #[.pointer (some ⟨Bm, 0, none⟩)] trivial (enters_of Tryz.func178 (by kernel_rfl) rfl) _ _ hmax hbytes _ hseq
 exact (callsIn_wide (n := 5)).1 cS
def kR : Value → Option (DataW Unit × List MemPlace) := fun _ => some (.nil, [])
theorem insert_perm {H : Type} (x : Lit × DataW H) : ∀ (l : List (Lit × DataW H)), ((DataW.insert x l).map fun p => intOf p.1).Perm (intOf x.1 :: l.map fun p => intOf p.1)
 | [] => .refl _
 | y :: r => by
   unfold DataW.insert
   split
   · exact .refl _
   exact ((insert_perm x r).cons _).trans (.swap _ _ _)
theorem insert_len {H : Type} (x : Lit × DataW H) : ∀ (l : List (Lit × DataW H)), (DataW.insert x l).length = l.length + 1
 | [] => rfl
 | y :: r => by
   unfold DataW.insert
   split
   · rfl
   simp [insert_len x r]
theorem fold_perm {H : Type} : ∀ (l : List (Lit × DataW H)), ((l.foldr DataW.insert []).map fun p => intOf p.1).Perm (l.map fun p => intOf p.1)
 | [] => .refl _
 | x :: r => (insert_perm x _).trans ((fold_perm r).cons _)
theorem fold_len {H : Type} : ∀ (l : List (Lit × DataW H)), (l.foldr DataW.insert []).length = l.length
 | [] => rfl
 | x :: r => by simp [insert_len, fold_len r]
theorem own_map {w : World} {b : Nat} {ms : Array MapEntry} {es : List (Int × AV)} (hb : w.heap[b]? = some (.map ms es.length)) (h : ∀ (j : Nat) (e : Int × AV), es[j]? = some e → ∃ V, ms[j]? = some ⟨.int .i64 e.1, V, j⟩) (hl : ms.size = es.length) (hnd : (es.map (·.1)).Nodup) (hk : ∀ e ∈ es, 0 ≤ e.1 ∧ e.1 ≤ 1000000) (hn : es.length ≤ 1000000) :
 w.ownsMap Tryz.prog 3 kR b es.length (.map ((ms.toList.map (WideElems.rg Tryz.prog 3 kR)).foldr DataW.insert [])) ∧ (ms.toList.map fun m => intOf (WideElems.rg Tryz.prog 3 kR m).1) = es.map (·.1) := by
 have hget : ∀ (j : Nat) (m : MapEntry), ms.toList[j]? = some m → ∃ e V, es[j]? = some e ∧ m = ⟨.int .i64 e.1, V, j⟩ := fun j m hm => by
  have hj : j < es.length := by rw [← hl]; simpa using (List.getElem?_eq_some_iff.1 hm).1
  obtain ⟨V, hV⟩ := h j es[j] (List.getElem?_eq_getElem hj)
  have : ms[j]? = some m := by simpa using hm
  rw [hV] at this
  exact ⟨es[j], V, List.getElem?_eq_getElem hj, (Option.some.inj this).symm⟩
 have hrd : ∀ (e : Int × AV) (V : Value) (j : Nat), e ∈ es → WideElems.rd Tryz.prog 3 kR ⟨.int .i64 e.1, V, j⟩ = some (.int .i64 e.1, .nil) := fun e V j he => by
  have hw : (Lit.int .i64 e.1).wf = true := by
   have := hk e he
   have h1 : IntKind.i64.min = -9223372036854775808 := by decide
   have h2 : IntKind.i64.max = 9223372036854775807 := by decide
   simp only [Lit.wf, Bool.and_eq_true, decide_eq_true_eq]
   omega
  simp only [WideElems.rd, keyOf_int_mk Tryz.underlying3 hw, Option.bind_some, kR, Option.map_some]
 have hkeys : (ms.toList.map fun m => intOf (WideElems.rg Tryz.prog 3 kR m).1) = es.map (·.1) := by
  apply List.ext_getElem?
  intro j
  rw [List.getElem?_map, List.getElem?_map]
  cases hm : ms.toList[j]? with
  | none =>
    have : es[j]? = none := List.getElem?_eq_none (by rw [← hl]; simpa using List.getElem?_eq_none_iff.1 hm)
    rw [this]; rfl
  | some m =>
    obtain ⟨e, V, he, rfl⟩ := hget j m hm
    rw [he]
    simp only [Option.map_some, WideElems.rg, hrd e V j (List.mem_of_getElem? he), Option.getD_some, intOf]
 have hml : maxLen = 1152921504606846976 ∨ 1000000 ≤ maxLen := .inr (by decide)
 refine ⟨⟨ms, es.length, hb, ⟨by have := hml.elim (fun h => by omega) id; omega, ⟨fun x hx => ?_, ?_, ?_⟩, fun x hx => ?_⟩, by omega, rfl⟩, hkeys⟩
 · obtain ⟨j, hj⟩ := List.mem_iff_getElem?.1 hx
   obtain ⟨e, V, he, rfl⟩ := hget j x hj
   exact (List.getElem?_eq_some_iff.1 he).1
 · have : ms.toList.map (·.born) = List.range es.length := by
    apply List.ext_getElem?
    intro j
    rw [List.getElem?_map]
    cases hm : ms.toList[j]? with
    | none =>
      have := List.getElem?_eq_none_iff.1 hm
      rw [List.getElem?_eq_none (by rw [List.length_range, ← hl]; simpa using this)]; rfl
    | some m =>
      obtain ⟨e, V, he, rfl⟩ := hget j m hm
      rw [List.getElem?_range (List.getElem?_eq_some_iff.1 he).1]; rfl
   rw [this]
   exact List.nodup_range
 · have : ms.toList.map (·.key) = (es.map (·.1)).map (Value.int .i64) := by
    apply List.ext_getElem?
    intro j
    rw [List.getElem?_map, List.getElem?_map, List.getElem?_map]
    cases hm : ms.toList[j]? with
    | none =>
      have := List.getElem?_eq_none_iff.1 hm
      rw [List.getElem?_eq_none (l := es) (by rw [← hl]; simpa using this)]; rfl
    | some m =>
      obtain ⟨e, V, he, rfl⟩ := hget j m hm
      rw [he]; rfl
   rw [this]
   exact List.Pairwise.map _ (fun a b hab hc => hab (by simpa using hc)) hnd
 obtain ⟨j, hj⟩ := List.mem_iff_getElem?.1 hx
 obtain ⟨e, V, he, rfl⟩ := hget j x hj
 exact ⟨_, hrd e V j (List.mem_of_getElem? he)⟩
def sortI (l : List Int) : List Int := l.mergeSort fun x y => decide (x ≤ y)
theorem sKeys (G : Glob) (H : Hp) (l : Nat) (es : List (Int × AV)) (hl : H[l]? = some (.map es)) : XS Tryz.prog G 171 [.mapr l] H (fun r H' => r = .clo 178 [.ptr H.length 0 0] ∧ H' = H ++ [.one 189 [.mapr l]]) := by
 intro c Vs s hg hlen hr
 match Vs, hlen with
 | [V], _ =>
   have h0 := hr 0 _ V rfl rfl
   cases h0 with
   | mapr _ cl hρ =>
     refine (kKeys (some cl.blk) c.w).mono ?_
     rintro e w' ⟨rfl, rfl⟩
     have t := To.new s (.one 189 [.mapr l]) (.cells #[.map (some cl.blk)] 189) ⟨c.w.heap.size, 0, 1, 1⟩ rfl fun c' m hρ' hh hI hB =>
      ⟨_, #[.map (some cl.blk)], hρ', rfl, hh, rfl, hI, hB, fun i r hri => by
       cases i with
       | succ i => simp at hri
       | zero =>
         simp at hri
         subst hri
         refine ⟨rfl, fun j x hx => ?_⟩
         cases j with
         | succ j => simp at hx
         | zero =>
           simp at hx
           subst hx
           exact ⟨.map (some cl.blk), by simp, rfl, .mapr _ cl (m.ρ _ _ hρ)⟩, rfl, rfl⟩
     refine ⟨_, _, _, _, rfl, rfl, t, .clo 178 [.ptr H.length 0 0] #[.pointer (some ⟨c.w.heap.size, 0, none⟩)] rfl (fun j x V hx hV => ?_), rfl, rfl⟩
     cases j with
     | succ j => simp at hx
     | zero =>
       simp at hx hV
       subst hx
       subst hV
       have := Rel.ptr (c := { c with w := c.w.alloc (.cells #[.map (some cl.blk)] 189), ρ := updρ c.ρ H.length ⟨c.w.heap.size, 0, 1, 1⟩ }) H.length 0 0 _ (updρ_self _ _ _)
       simpa using this
theorem sSorted (G : Glob) (H : Hp) (l n : Nat) (es : List (Int × AV)) (hl : H[l]? = some (.map es)) (hn : H[n]? = some (.one 189 [.mapr l])) (hnd : (es.map (·.1)).Nodup) (hk : ∀ e ∈ es, 0 ≤ e.1 ∧ e.1 ≤ 1000000) (hes : es.length ≤ 1000000) :
 XS Tryz.prog G 170 [.clo 178 [.ptr n 0 0]] H (fun r H' => r = plist ((sortI (es.map (·.1))).map iRow) ∧ H' = H) := by
 intro c Vs s hg hlen hr
 match Vs, hlen with
 | [V], _ =>
   have h0 := hr 0 _ V rfl rfl
   cases h0 with
   | clo _ _ Us hlu h2 =>
     have hU : ∃ U, Us = #[U] := by
      match Us, hlu with
      | ⟨[U]⟩, _ => exact ⟨U, rfl⟩
     obtain ⟨U, rfl⟩ := hU
     have hp := h2 0 _ U rfl rfl
     cases hp with
     | ptr _ _ _ cl hρ =>
       obtain ⟨cl', cells, e1, e2, e3, e4, e5, e6, e7, e8, e9⟩ := s.obj n _ hn
       rw [hρ] at e1
       cases e1
       obtain ⟨V0, v1, v2, v3⟩ := (e7 0 _ rfl).2 0 (.mapr l) rfl
       cases v3 with
       | mapr _ cm hρm =>
         obtain ⟨cm', ms, g1, g2, g3, g4, g5, g6⟩ := s.obj l _ hl
         rw [hρm] at g1
         cases g1
         obtain ⟨hown, hkeys⟩ := own_map g2 (fun j e he => let ⟨V, a, b⟩ := g6 j e he; ⟨V, a⟩) g5 hnd hk hes
         have hoff : cl.base + 0 * cl.sz + 0 = 0 := by rw [e8]; simp
         rw [hoff]
         have hcell : c.w.cell? ⟨cl.blk, 0, none⟩ = some (.map (some cm.blk)) := by
          rw [cell_at e3, ← v1]
          congr 1
          omega
         have hsz : Maps.size (H := Unit) (.map ((ms.toList.map (WideElems.rg Tryz.prog 3 kR)).foldr DataW.insert [])) = es.length := by
          rw [Maps.size_eq, fold_len, List.length_map, Array.length_toList, g5]
         refine (kSorted cl.blk cm.blk _ _ kR c.w (Array.getElem?_eq_some_iff.1 e3).1 hcell hown (by rw [hsz]; exact Nat.le_trans hes (by decide)) (by rw [hsz]; omega)).mono ?_
         rintro e w' ⟨v, ss, rfl, hperm, hrow, hnil, hB⟩
         have hp2 : ss.Perm (es.map (·.1)) := by
          refine hperm.trans ?_
          rw [← hkeys]
          have := fold_perm (ms.toList.map (WideElems.rg Tryz.prog 3 kR))
          rw [List.map_map] at this
          exact this
         have hs : ss.mergeSort (fun x y => decide (x ≤ y)) = sortI (es.map (·.1)) := mergeSort_of_perm_i hp2
         rw [hs] at hrow
         have hlen2 : (sortI (es.map (·.1))).length = ss.length := by rw [← hs, List.length_mergeSort]
         rcases hrow.2 with ⟨rfl, hz⟩ | ⟨gb, cap, cur, rfl, hbase, hgb, r1, r2, r3, r4⟩
         · have he : sortI (es.map (·.1)) = [] := List.length_eq_zero_iff.1 (hlen2.trans hz)
           refine ⟨_, _, _, _, rfl, rfl, To.grown s (fun _ => False) (fun _ h => h.elim) hB.size (fun b hb => hB.block b hb) hB.os hB.tape hB.output, ?_, rfl, rfl⟩
           rw [he]
           exact .nils
         have hglt := (Array.getElem?_eq_some_iff.1 hgb).1
         refine ⟨_, _, _, _, rfl, rfl, To.grown s (fun b => b = gb) (fun b h => by subst h; exact ⟨hbase, hglt⟩) hB.size (fun b hb => hB.block b hb) hB.os hB.tape hB.output, ?_, rfl, rfl⟩
         have hne : ¬ (sortI (es.map (·.1))).map iRow = [] := fun h => by
          have h1 : sortI (es.map (·.1)) = [] := by simpa using h
          have h2 : ss = [] := List.length_eq_zero_iff.1 (by rw [← hlen2, h1]; rfl)
          have := hnil.2 h2
          cases this
         have hcur : ∀ i, i < (sortI (es.map (·.1))).length → cur[i]? = some (.int .i64 ((sortI (es.map (·.1))).getD i 0)) := fun i hi => by
          have h1 := congrArg (·[i]?) r4
          simp only [Nat.mul_one] at h1
          rw [List.getElem?_take_of_lt (by omega), List.getElem?_map, List.getElem?_eq_getElem hi] at h1
          rw [← Array.getElem?_toList, h1]
          simp [encZ, hi]
         have hrel := Rel.list (c := { c with w := w', I := fun b => c.I b ∨ b = gb }) .loose ((sortI (es.map (·.1))).map iRow) gb 0 1 cap none (.inr rfl) (fun i _ => .int .i64 ((sortI (es.map (·.1))).getD i 0)) (.inr (.inr rfl)) (by simpa [hlen2] using r1) (fun h => by cases h) (fun r hr => by obtain ⟨k, _, rfl⟩ := List.mem_map.1 hr; rfl)
          (List.all_eq_true.2 fun r hr => by obtain ⟨k, _, rfl⟩ := List.mem_map.1 hr; rfl)
          (fun i j hi hj => by
           have hj0 : j = 0 := by omega
           subst hj0
           have hi2 : i < (sortI (es.map (·.1))).length := by simpa using hi
           refine ⟨?_, rfl⟩
           rw [cell_at hgb, ← hcur i hi2]
           congr 1
           omega)
          (fun i r j x hr hx => by
           rw [List.getElem?_map] at hr
           obtain ⟨k, hk2, rfl⟩ := Option.map_eq_some_iff.1 hr
           cases j with
           | succ j => simp [iRow] at hx
           | zero =>
             simp [iRow] at hx
             subst hx
             have : (sortI (es.map (·.1))).getD i 0 = k := by simp [List.getD, hk2]
             rw [this]
             exact .int _ _)
         rw [plist, if_neg hne]
         simpa [hlen2] using hrel
end Go.Vi
namespace Go.Vi
open Go Go.Vi Go.Proofs
attribute [local irreducible] vops vopsD vc
theorem zr140 : zrOf Tryz.prog 140 = some (.agg [.int .i64 0, .int .i64 0, .str ⟨#[]⟩]) := by kernel_rfl
theorem zc140 : zcOf Tryz.prog 140 = some [.int .i64 0, .int .i64 0, .str ⟨#[]⟩] := by kernel_rfl
theorem by140 : byOf Tryz.prog 140 = some 32 := by kernel_rfl
theorem sz140 : szOf Tryz.prog 140 = some 3 := by kernel_rfl
theorem sz3 : szOf Tryz.prog 3 = some 1 := by kernel_rfl
def OutIs (lo : Nat) (H : Hp) (T sz : Nat) (v : AV) (rows : List (List AV)) : Prop :=
 (v = .nils ∧ rows = []) ∨ ∃ L, v = .row false L 0 rows.length ∧ lo ≤ L ∧ H[L]? = some (.arr T sz rows) ∧ rows ≠ []
def lowOwn (lo : Nat) (l : Nat) : Own := if l < lo then .world else .no
theorem OutIs.grow {lo : Nat} {H : Hp} {T sz : Nat} {v : AV} {rows : List (List AV)} (h : OutIs lo H T sz v rows) : GrowIs H (lowOwn lo) .no T sz v rows := by
 rcases h with h | ⟨L, h1, h2, h3, _⟩
 · exact .inl h
 exact .inr ⟨L, rows, h1, by simp only [lowOwn]; rw [if_neg (by omega)], h3, List.take_length⟩
theorem OutIs.app {lo : Nat} {H : Hp} {T sz : Nat} {v : AV} {rows : List (List AV)} (h : OutIs lo H T sz v rows) (g : Hp) : OutIs lo (H ++ g) T sz v rows := by
 rcases h with h | ⟨L, h1, h2, h3, h4⟩
 · exact .inl h
 exact .inr ⟨L, h1, h2, get_app h3, h4⟩
theorem low_keep {lo : Nat} {H H1 : Hp} (hl : lo ≤ H.length) (h : ∀ l, l < H.length → lowOwn lo l ≠ .no → H1[l]? = H[l]?) : ∀ l, l < lo → H1[l]? = H[l]? := fun l hlt =>
 h l (by omega) (by simp only [lowOwn]; rw [if_pos hlt]; simp)
theorem OutIs.frz {lo : Nat} {H : Hp} {T sz : Nat} {v : AV} {rows : List (List AV)} (h : OutIs lo H T sz v rows) (hv : allVal rows = true) : ∃ H3, frzv H v = some (H3, plist rows) ∧ H3.length = H.length ∧ ∀ l, l < lo → H3[l]? = H[l]? := by
 rcases h with ⟨rfl, rfl⟩ | ⟨L, rfl, h2, h3, hr⟩
 · exact ⟨H, rfl, rfl, fun _ _ => rfl⟩
 refine ⟨H.set L (.frz sz rows), ?_, by simp, fun l hl => List.getElem?_set_ne (by omega)⟩
 simp only [frzv, frz1, frzCell, h3, hv]
 rw [if_pos (by simp)]
 simp [plist, hr]
theorem openL_yes {s : St} {ks : List Int} {i : Nat} {k : Int} (h : ks[i]? = some k) (ho : isOpenU (s.unit k) = true) : openL s (ks.take (i + 1)) = openL s (ks.take i) ++ [roOf k (s.unit k)] := by
 rw [List.take_add_one, h]
 simp [openL, openAt, ho]
theorem openL_no {s : St} {ks : List Int} {i : Nat} {k : Int} (h : ks[i]? = some k) (ho : isOpenU (s.unit k) = false) : openL s (ks.take (i + 1)) = openL s (ks.take i) := by
 rw [List.take_add_one, h]
 simp [openL, openAt, ho]
theorem openL_len {s : St} {ks : List Int} : (openL s ks).length ≤ ks.length := List.length_filterMap_le _ _
theorem openL_val {s : St} {ks : List Int} : allVal ((openL s ks).map Ro.row) = true :=
 List.all_eq_true.2 fun r hr => by obtain ⟨u, _, rfl⟩ := List.mem_map.1 hr; rfl
structure KeysOk (w : Pst) (n : Nat) : Prop where
 num : ∀ e ∈ w.eu, 0 ≤ e.1 ∧ e.1 ≤ 1000000
 len : w.eu.length ≤ n
def rlen : AV → Nat
 | .row _ _ _ n => n
 | _ => 0
theorem GrowIs.rlen {H : Hp} {own : Nat → Own} {tag : Own} {T sz : Nat} {v : AV} {rows : List (List AV)} (h : GrowIs H own tag T sz v rows) : rows.length = rlen v := by
 rcases h with ⟨rfl, rfl⟩ | ⟨L, r0, rfl, _⟩ <;> rfl
theorem keys_all {H : Hp} {w : Pst} {s : St} {own : Nat → Own} (hW : WRep H w s own) {k : Int} (h : isOpenU (s.unit k) = true) : k ∈ sortI (w.eu.map (·.1)) := by
 rw [sortI, List.mem_mergeSort]
 rcases hW.un k with ⟨_, h2⟩ | ⟨l, lv, h1, _⟩
 · rw [h2] at h; cases h
 by_cases hm : k ∈ w.eu.map (·.1)
 · exact hm
 rw [mget_none.2 hm] at h1; cases h1
theorem opens_keys {H : Hp} {w : Pst} {s : St} {own : Nat → Own} (hW : WRep H w s own) : s.opens = openL s (sortI (w.eu.map (·.1))) :=
 (openL_opens (sortI_asc hW.nd) fun k hk => keys_all hW hk).eq
set_option maxHeartbeats 4000000 in
theorem sOpenW (G : Glob) (H : Hp) (w : Pst) (s : St) (own : Nat → Own) (hW : WRep H w s own) (n : Nat) (hK : KeysOk w n) (hn : n ≤ 1000000) (hleft : ∀ k, (s.unit k).left.length ≤ 1000000) : XS Tryz.prog G 148 [.ptr w.lw 0 0] H (fun v H' => ∃ g, H' = H ++ g ∧ OutIs H.length H' 140 3 v ((openL s (sortI (w.eu.map (·.1)))).map Ro.row)) := by
 obtain ⟨ks, hks⟩ : ∃ ks, ks = sortI (w.eu.map (·.1)) := ⟨_, rfl⟩
 have hkl : ks.length ≤ 1000000 := by rw [hks, sortI, List.length_mergeSort, List.length_map]; have := hK.len; omega
 obtain ⟨kx, hkx⟩ : ∃ kx, kx = plist (ks.map iRow) := ⟨_, rfl⟩
 have hLk : IsL kx := by rw [hkx]; exact IsL_plist
 have hlk : lrows kx = ks.map iRow := by rw [hkx]; exact lrows_plist
 have hkl2 : (lrows kx).length = ks.length := by rw [hlk]; simp
 have hso := sSorted G (H ++ [.one 189 [.mapr w.lu]]) w.lu H.length w.eu (get_app hW.uh) get_last hW.nd hK.num (by have := hK.len; omega)
 refine xs_body (fun o => match o.op with | .call ⟨.value _, _, _⟩ => .shr | .call ⟨.builtin .append, _, _⟩ => .shr | _ => .iso) Tryz.func148 rfl ?_
 refine vc_norm (env' := (_ :: _ :: _ :: _ :: _ :: _ :: _ :: _ :: _ :: _ :: _ :: _ :: _ :: _ :: _ :: _ :: _ :: _ :: _ :: _ :: _ :: _ :: _ :: _ :: _ :: _ :: _ :: _ :: _ :: _ :: _ :: _ :: _ :: _ :: _ :: _ :: _ :: _ :: _ :: _ :: _ :: _ :: _ :: _ :: _ :: _ :: _ :: _ :: _ :: _ :: _ :: _ :: _ :: _ :: _ :: _ :: _ :: _ :: _ :: _ :: _ :: _ :: _ :: _ :: _ :: _ :: _ :: [])) (H' := _) rfl rfl ?_
 refine vs (wr ?_)
 refine wN rfl rfl rfl (v67 rfl ?_)
 refine we rfl (vs (wr ?_))
 refine wN rfl rfl rfl (v67 rfl ?_)
 refine we rfl (vs (vs (wr ?_)))
 refine wN (v := .ptr w.lw 0 0) rfl rfl rfl (v67 rfl ?_)
 iterate 2 refine wN rfl rfl rfl (v67 rfl ?_)
 refine wN (v := .mapr w.lu) rfl (g_load hW.wh rfl rfl) rfl (v67 rfl ?_)
 refine w_callS rfl rfl rfl (by kernel_rfl) rfl (sKeys G H w.lu w.eu hW.uh) ?_
 rintro _ _ ⟨rfl, rfl⟩
 refine v67 rfl ?_
 refine w_callS rfl rfl rfl (by kernel_rfl) rfl (hso.mono (K' := fun v H' => kx = v ∧ H' = H ++ [.one 189 [.mapr w.lu]]) fun v H' h => ⟨(h.1.trans (by rw [hkx, hks])).symm, h.2⟩) ?_
 rintro _ _ ⟨rfl, rfl⟩
 refine v67 rfl ?_
 first | refine wN rfl rfl rfl (v67 rfl ?_) | refine x_len rfl rfl ‹_› Tryz.underlying35 rfl (v67 rfl ?_)
 refine wN rfl rfl rfl (v67 rfl ?_)
 refine we rfl (vc_block ?_)
 refine vc_loopX (α := { a : Nat × AV × Hp // a.1 ≤ ks.length ∧ H.length ≤ a.2.2.length ∧ (∀ l, l < H.length → a.2.2[l]? = H[l]?) ∧ OutIs H.length a.2.2 140 3 a.2.1 ((openL s (ks.take a.1)).map Ro.row) }) (fun a => ([none, none, none, some (a.1.2.1), none, some .undef, some .undef, some .undef] ++ (rnone 7 ++ ([some (.int .i64 (a.1.1 : Nat))] ++ (rundef 50 ++ ([none])))))) (fun a => a.1.2.2) (fun a => ks.length - a.1.1) ⟨(0, .nils, H ++ [.one 189 [.mapr w.lu]]), Nat.zero_le _, by simp, fun l hl => List.getElem?_append_left hl, .inl ⟨rfl, rfl⟩⟩ (by repeat' first | exact trivial | refine ⟨.inr rfl, ?_⟩ | refine ⟨.inl rfl, ?_⟩ | fail) rfl ?_
 rintro ⟨⟨i, v, Hx⟩, hil, hle, hkp, hO⟩ Y0 hY0
 refine vc_norm (env' := (_ :: _ :: _ :: v :: _ :: _ :: _ :: _ :: _ :: _ :: _ :: _ :: _ :: _ :: _ :: (.int .i64 (i : Int)) :: _ :: _ :: _ :: _ :: _ :: _ :: _ :: _ :: _ :: _ :: _ :: _ :: _ :: _ :: _ :: _ :: _ :: _ :: _ :: _ :: _ :: _ :: _ :: _ :: _ :: _ :: _ :: _ :: _ :: _ :: _ :: _ :: _ :: _ :: _ :: _ :: _ :: _ :: _ :: _ :: _ :: _ :: _ :: _ :: _ :: _ :: _ :: _ :: _ :: _ :: _ :: [])) (H' := Hx) rfl rfl ?_
 replace hil : i ≤ ks.length := hil
 replace hle : H.length ≤ Hx.length := hle
 replace hkp : ∀ l, l < H.length → Hx[l]? = H[l]? := hkp
 replace hO : OutIs H.length Hx 140 3 v ((openL s (ks.take i)).map Ro.row) := hO
 refine vs (wr ?_)
 refine wN rfl rfl rfl (v67 rfl ?_)
 refine we rfl (vs ?_)
 refine vc_cond rfl (fun hc16 => ?_) (fun hc16 => ?_)
 ·
  have hlt : i < ks.length := by have := of_decide_eq_true hc16; omega
  obtain ⟨k, hk⟩ : ∃ k, ks[i]? = some k := ⟨_, List.getElem?_eq_getElem hlt⟩
  have hri : (lrows kx)[i]? = some [.int .i64 k] := by rw [hlk, List.getElem?_map, hk]; rfl
  have hWx : WRep Hx w s own := hW.frame ⟨hle, fun l hl _ => hkp l hl, fun _ _ => rfl⟩ (fun l hl => hW.fresh l (by omega))
  obtain ⟨l, lv, hm, ho, hu⟩ : ∃ l lv, mget k w.eu = some (.ptr l 0 0) ∧ own l = .unit k ∧ UnIs Hx own k l lv (s.unit k) := by
   rcases hWx.un k with ⟨h1, _⟩ | h
   · have := List.mem_of_getElem? hk
     rw [hks, sortI, List.mem_mergeSort] at this
     exact absurd this (mget_none.1 h1)
   exact h
  refine vc_skip (n_then (vs (vc_block (vs (wr ?_)))))
  first | refine wN (v := .iptr _ [_]) rfl rfl rfl (v67 rfl ?_) | (refine x_index rfl rfl ‹_› rfl el35 (by omega) ‹_› rfl (fun bo => ?_); refine v67 rfl ?_)
  iterate 2 refine wN rfl rfl rfl (v67 rfl ?_)
  refine we rfl (vs (wr ?_))
  refine wN (v := .ptr w.lw 0 0) rfl rfl rfl (v67 rfl ?_)
  iterate 2 refine wN rfl rfl rfl (v67 rfl ?_)
  refine wN (v := .mapr w.lu) rfl (g_load hWx.wh rfl rfl) rfl (v67 rfl ?_)
  refine wN rfl rfl rfl (v67 rfl ?_)
  refine wN (v := .ptr l 0 0) rfl (mget_look im189 hWx.uh hm) rfl (v67 rfl ?_)
  refine wN rfl rfl rfl (v67 rfl ?_)
  refine we rfl (vs (wr ?_))
  iterate 3 refine wN rfl rfl rfl (v67 rfl ?_)
  refine wN (v := .bool (s.unit k).seen) rfl (g_load hu.obj rfl rfl) rfl (v67 rfl ?_)
  refine wN rfl rfl rfl (v67 rfl ?_)
  apply w_and 6 29 (fun b => (rnone 29 ++ (rundef 6 ++ ([some (.bool b)] ++ (rnone 31))))) rfl
  ·
   intro hg29 hY29
   refine v67 rfl ?_
   iterate 3 refine wN (wanted_t 29 (by kernel_rfl) rfl) rfl rfl (v67 rfl ?_)
   refine wN (v := .int .i64 (s.unit k).stands) (wanted_t 29 (by kernel_rfl) rfl) (g_load hu.obj rfl rfl) rfl (v67 rfl ?_)
   refine wN (wanted_t 29 (by kernel_rfl) rfl) rfl rfl (v67 rfl ?_)
   refine wN rfl rfl rfl (v67 rfl ?_)
   refine hY29 _ ?_
   repeat' first | exact trivial | refine ⟨.inr rfl, ?_⟩ | refine ⟨.inl rfl, ?_⟩ | fail
  ·
   intro hg29 hY29
   refine v67 rfl ?_
   iterate 5 refine wS (wanted_f 29 (by kernel_rfl) rfl) (v67 rfl ?_)
   refine wN rfl rfl rfl (v67 rfl ?_)
   refine hY29 _ ?_
   repeat' first | exact trivial | refine ⟨.inr rfl, ?_⟩ | refine ⟨.inl rfl, ?_⟩ | fail
  refine v67 rfl ?_
  refine we rfl ?_
  refine vc_cond rfl (fun hc35 => ?_) (fun hc35 => ?_)
  ·
   have hll := hleft k
   have hu2 : UnIs (Hx ++ [VO.arr 140 3 [[.int .i64 k, .int .i64 0, .str (s.unit k).ready]]]) own k l lv (s.unit k) := ((⟨by simp, fun l hl _ => List.getElem?_append_left hl, fun _ _ => rfl⟩ : Same (fun _ => False) Hx own (Hx ++ [VO.arr 140 3 [[.int .i64 k, .int .i64 0, .str (s.unit k).ready]]]) own).un ho (by simp) (by simp) hu).2
   refine vs (wr ?_)
   iterate 4 refine wN rfl rfl rfl (v67 rfl ?_)
   refine wN (v := .str (s.unit k).ready) rfl (g_load hu.obj rfl rfl) rfl (v67 rfl ?_)
   refine wN (v := .agg [_, _, _]) rfl rfl rfl (v67 rfl ?_)
   refine w_opH (v := .ptr Hx.length 0 0) (env' := _) (H2 := Hx ++ [VO.arr 140 3 [[.int .i64 0, .int .i64 0, .str ⟨#[]⟩]]]) rfl (g_alloc zr140 rfl rfl) rfl (rfl) (fun _ h => h) (v67 rfl ?_)
   refine w_op0N (H2 := Hx ++ [VO.arr 140 3 [[.int .i64 k, .int .i64 0, .str (s.unit k).ready]]]) rfl (g_store get_last rfl rfl sz140 ⟨rfl, by simp, by decide⟩) (set_last) (fun _ h => h) ?_
   refine we rfl (vs (vs (wr ?_)))
   iterate 3 refine wN rfl rfl rfl (v67 rfl ?_)
   refine wN (v := lv) rfl (g_load (get_app hu.obj) rfl rfl) rfl (v67 rfl ?_)
   refine wN (v := .int .i64 (s.unit k).left.length) rfl (un_len hu2 Tryz.underlying35) rfl (v67 rfl ?_)
   refine wN rfl rfl rfl (v67 rfl ?_)
   refine we rfl ?_
   refine vc_cond rfl (fun hc47 => ?_) (fun hc47 => ?_)
   ·
    have hpos : 0 < (s.unit k).left.length := by have := of_decide_eq_true hc47; omega
    obtain ⟨q, hq⟩ : ∃ q, (s.unit k).left[(s.unit k).left.length - 1]? = some q := ⟨_, List.getElem?_eq_getElem (by omega)⟩
    have hlast : (s.unit k).left.getLast? = some q := by rw [List.getLast?_eq_getElem?]; exact hq
    obtain ⟨L, rows0, rfl, hL1, hL2, _, _⟩ := left_at hu2 hq
    rw [show (s.unit k).left.length - 1 = (((s.unit k).left.length : Int) - 1).toNat by omega] at hL2
    refine w_regionD (by kernel_rfl) ?_
    iterate 3 refine dN rfl rfl rfl (d67 rfl ?_)
    refine dN (v := .row false L 0 (s.unit k).left.length) rfl (g_load hu2.obj rfl rfl) rfl (d67 rfl ?_)
    iterate 3 refine dN rfl rfl rfl (d67 rfl ?_)
    refine dN (v := .row false L 0 (s.unit k).left.length) rfl (g_load hu2.obj rfl rfl) rfl (d67 rfl ?_)
    refine dN (v := .int .i64 (s.unit k).left.length) rfl (un_len hu2 Tryz.underlying35) rfl (d67 rfl ?_)
    refine dN (v := .int .i64 (((s.unit k).left.length : Int) - 1)) rfl (int_eq (i64_small (by omega) (by omega))) rfl (d67 rfl ?_)
    refine dN (v := .ptr L (((s.unit k).left.length : Int) - 1).toNat 0) rfl (g_index0 el35 hL1 (by omega) (by omega)) rfl (d67 rfl ?_)
    refine dN (v := .int .i64 q) rfl (g_load hL1 hL2 rfl) rfl (d67 rfl ?_)
    refine dN (v := .ptr Hx.length 0 1) rfl rfl rfl (d67 rfl ?_)
    refine d_op0 (H2 := Hx ++ [VO.arr 140 3 [[.int .i64 k, .int .i64 q, .str (s.unit k).ready]]]) rfl (g_store get_last rfl rfl sz3 ⟨rfl, by simp, by decide⟩) (.inl rfl) (set_last) (fun _ h => h) ?_
    refine d_end rfl (wr ?_)
    refine wN rfl rfl rfl (v67 rfl ?_)
    refine wN (v := .agg [.int .i64 k, .int .i64 q, .str (s.unit k).ready]) rfl (g_load get_last rfl rfl) rfl (v67 rfl ?_)
    refine wN rfl rfl rfl (v67 rfl ?_)
    have hoo : isOpenU (s.unit k) = true := hc35
    have hro : roOf k (s.unit k) = ⟨k, q, (s.unit k).ready⟩ := by simp [roOf, hlast]
    obtain ⟨H1, hA, hAl, hAr, hAk⟩ := grow_app (P := Tryz.prog) (t := 91) (t2 := 91) (x := .list .tight [[.int .i64 k, .int .i64 q, .str (s.unit k).ready]]) (news := [[.int .i64 k, .int .i64 q, .str (s.unit k).ready]]) (hO.app [VO.arr 140 3 [[.int .i64 k, .int .i64 q, .str (s.unit k).ready]]]).grow el91 Tryz.underlying91 rfl zc140 by140 rfl rfl (by decide) (by decide) rfl rfl (by simp) (by simp only [List.length_map, List.length_singleton]; have := openL_len (s := s) (ks := ks.take i); simp at this; omega)
    have hAk2 := low_keep (lo := H.length) (by simp; omega) hAk
    refine w_opH (v := .row false (Hx ++ [VO.arr 140 3 [[.int .i64 k, .int .i64 q, .str (s.unit k).ready]]]).length 0 (((openL s (ks.take i)).map Ro.row).length + 1)) (env' := _) (H2 := H1) rfl (hA) rfl (rfl) (fun _ h => h) (v67 rfl ?_)
    refine wN rfl rfl rfl (v67 rfl ?_)
    refine w_endB rfl (n_then (wr ?_))
    iterate 2 refine wN rfl rfl rfl (v67 rfl ?_)
    refine we rfl ?_
    refine hY0 ⟨(i + 1, .row false (Hx ++ [VO.arr 140 3 [[.int .i64 k, .int .i64 q, .str (s.unit k).ready]]]).length 0 (((openL s (ks.take i)).map Ro.row).length + 1), H1), hlt, by show _ ≤ H1.length; rw [hAl]; simp; omega, fun l hl => by show H1[l]? = _; rw [hAk2 l hl, List.getElem?_append_left (by omega)]; exact hkp l hl, (by show OutIs H.length H1 140 3 _ ((openL s (ks.take (i + 1))).map Ro.row); rw [openL_yes hk hoo, hro, List.map_append]; exact .inr ⟨(Hx ++ [VO.arr 140 3 [[.int .i64 k, .int .i64 q, .str (s.unit k).ready]]]).length, by simp, by simp; omega, hAr, by simp⟩)⟩ (by simp only; omega) _ _ ?_ rfl
    repeat' first | exact trivial | refine ⟨.inr rfl, ?_⟩ | refine ⟨.inl rfl, ?_⟩ | refine ⟨.inl ?_, ?_⟩ | fail
    all_goals first | exact (int_succ (by omega)).symm
   have hlast : (s.unit k).left.getLast? = none := by have := of_decide_eq_false hc47; rw [List.getLast?_eq_none_iff]; exact List.length_eq_zero_iff.1 (by omega)
   refine vc_skip (n_then (wr ?_))
   refine wN rfl rfl rfl (v67 rfl ?_)
   refine wN (v := .agg [.int .i64 k, .int .i64 0, .str (s.unit k).ready]) rfl (g_load get_last rfl rfl) rfl (v67 rfl ?_)
   refine wN rfl rfl rfl (v67 rfl ?_)
   have hoo : isOpenU (s.unit k) = true := hc35
   have hro : roOf k (s.unit k) = ⟨k, 0, (s.unit k).ready⟩ := by simp [roOf, hlast]
   obtain ⟨H1, hA, hAl, hAr, hAk⟩ := grow_app (P := Tryz.prog) (t := 91) (t2 := 91) (x := .list .tight [[.int .i64 k, .int .i64 0, .str (s.unit k).ready]]) (news := [[.int .i64 k, .int .i64 0, .str (s.unit k).ready]]) (hO.app [VO.arr 140 3 [[.int .i64 k, .int .i64 0, .str (s.unit k).ready]]]).grow el91 Tryz.underlying91 rfl zc140 by140 rfl rfl (by decide) (by decide) rfl rfl (by simp) (by simp only [List.length_map, List.length_singleton]; have := openL_len (s := s) (ks := ks.take i); simp at this; omega)
   have hAk2 := low_keep (lo := H.length) (by simp; omega) hAk
   refine w_opH (v := .row false (Hx ++ [VO.arr 140 3 [[.int .i64 k, .int .i64 0, .str (s.unit k).ready]]]).length 0 (((openL s (ks.take i)).map Ro.row).length + 1)) (env' := _) (H2 := H1) rfl (hA) rfl (rfl) (fun _ h => h) (v67 rfl ?_)
   refine wN rfl rfl rfl (v67 rfl ?_)
   refine w_endB rfl (n_then (wr ?_))
   iterate 2 refine wN rfl rfl rfl (v67 rfl ?_)
   refine we rfl ?_
   refine hY0 ⟨(i + 1, .row false (Hx ++ [VO.arr 140 3 [[.int .i64 k, .int .i64 0, .str (s.unit k).ready]]]).length 0 (((openL s (ks.take i)).map Ro.row).length + 1), H1), hlt, by show _ ≤ H1.length; rw [hAl]; simp; omega, fun l hl => by show H1[l]? = _; rw [hAk2 l hl, List.getElem?_append_left (by omega)]; exact hkp l hl, (by show OutIs H.length H1 140 3 _ ((openL s (ks.take (i + 1))).map Ro.row); rw [openL_yes hk hoo, hro, List.map_append]; exact .inr ⟨(Hx ++ [VO.arr 140 3 [[.int .i64 k, .int .i64 0, .str (s.unit k).ready]]]).length, by simp, by simp; omega, hAr, by simp⟩)⟩ (by simp only; omega) _ _ ?_ rfl
   repeat' first | exact trivial | refine ⟨.inr rfl, ?_⟩ | refine ⟨.inl rfl, ?_⟩ | refine ⟨.inl ?_, ?_⟩ | fail
   all_goals first | exact (int_succ (by omega)).symm
  have hoo : isOpenU (s.unit k) = false := hc35
  refine vc_skip (n_block (n_then (wr ?_)))
  iterate 2 refine wN rfl rfl rfl (v67 rfl ?_)
  refine we rfl ?_
  refine hY0 ⟨(i + 1, v, Hx), hlt, hle, hkp, by rw [openL_no hk hoo]; exact hO⟩ (by simp only; omega) _ _ ?_ rfl
  repeat' first | exact trivial | refine ⟨.inr rfl, ?_⟩ | refine ⟨.inl rfl, ?_⟩ | refine ⟨.inl ?_, ?_⟩ | fail
  all_goals first | exact (int_succ (by omega)).symm
 have hge : ks.length ≤ i := by have := of_decide_eq_false hc16; omega
 refine vc_exit (x_then (x_then (x_same (n_then (vs (wr ?_))))))
 iterate 2 refine wN rfl rfl rfl (v67 rfl ?_)
 refine we rfl (vc_ret (r_fn rfl ?_))
 refine ⟨_, split_at hkp hle, ?_⟩
 rw [List.take_of_length_le hge] at hO
 rw [← hks]
 exact hO
theorem sOpen (G : Glob) (H : Hp) (w : Pst) (s : St) (own : Nat → Own) (hW : WRep H w s own) (n : Nat) (hK : KeysOk w n) (hn : n ≤ 1000000) (hleft : ∀ k, (s.unit k).left.length ≤ 1000000) : XS Tryz.prog G 148 [.ptr w.lw 0 0] H (fun v H' => v = plist (s.opens.map Ro.row) ∧ H' = H) :=
 XS.stripF ((sOpenW G H w s own hW n hK hn hleft).mono fun v H' ⟨g, h1, h2⟩ => by
  obtain ⟨H3, f1, f2, f3⟩ := h2.frz openL_val
  refine ⟨g, H3, _, h1, f1, ⟨_, split_at (fun l hl => by rw [f3 l hl, h1, List.getElem?_append_left hl]) (by rw [f2, h1]; simp)⟩, ?_, by rw [opens_keys hW], rfl⟩
  unfold plist
  split <;> rfl)
end Go.Vi
namespace Go.Vi
structure AU (H : Hp) (w : Pst) (own : Nat → Own) (r : Rc) (Hx : Hp) (w' : Pst) (ow : Nat → Own) (l : Nat) (lv : AV) (s' : St) (u : Un) (m k : Nat) : Prop where
 lw : w'.lw = w.lw
 rep : WRep Hx w' s' ow
 box : Hx[H.length]? = some (.arr 93 10 [r.row])
 bno : ow H.length = .no
 un : UnIs Hx ow r.unit l lv u
 uu : r.unit ≠ 0 → s'.unit r.unit = u
 cas : (r.unit = 0 ∧ ow l = .no ∧ H.length < l) ∨ (r.unit ≠ 0 ∧ mget r.unit w'.eu = some (.ptr l 0 0) ∧ ow l = .unit r.unit)
 fr : Fr H own Hx ow
 keys : KeysOk w' m
 wl : rlen w'.wv ≤ k
section
variable {H Hx H2 : Hp} {w w' w2 : Pst} {own ow ow2 : Nat → Own} {r : Rc} {l m k : Nat} {lv : AV} {s' s2 : St} {u : Un}
theorem AU.blt (h : AU H w own r Hx w' ow l lv s' u m k) : H.length < Hx.length := lt_of h.box
theorem AU.llt (h : AU H w own r Hx w' ow l lv s' u m k) : l < Hx.length := lt_of h.un.obj
theorem AU.lne (h : AU H w own r Hx w' ow l lv s' u m k) : l ≠ H.length := by
 rcases h.cas with ⟨_, _, h3⟩ | ⟨_, _, h3⟩
 · omega
 intro e; rw [e, h.bno] at h3; cases h3
theorem AU.app (h : AU H w own r Hx w' ow l lv s' u m k) (g : Hp) : AU H w own r (Hx ++ g) w' ow l lv s' u m k where
 lw := h.lw
 rep := h.rep.app g
 box := get_app h.box
 bno := h.bno
 un := ⟨get_app h.un.obj, by
  rcases h.un.left with h1 | ⟨L, rows0, h1, h2, h3, h4⟩
  · exact .inl h1
  exact .inr ⟨L, rows0, h1, h2, get_app h3, h4⟩⟩
 uu := h.uu
 cas := h.cas
 fr := h.fr.trans (Fr.app Hx g ow)
 keys := h.keys
 wl := h.wl
theorem AU.next (h : AU H w own r Hx w' ow l lv s' u m k) (hR : WRep H2 w2 s2 ow2) (hF : Fr Hx ow H2 ow2) (hlw : w2.lw = w'.lw) (heu : w2.eu = w'.eu) (hwv : w2.wv = w'.wv) (hs : s2.unit = s'.unit) (h0 : r.unit ≠ 0) : ∃ lv2, AU H w own r H2 w2 ow2 l lv2 s2 u m k := by
 obtain ⟨_, hm, ho⟩ := h.cas.resolve_left fun c => h0 c.1
 rcases hR.un r.unit with ⟨h1, _⟩ | ⟨l2, lv2, h1, h2, h3⟩
 · rw [heu, hm] at h1; cases h1
 rw [heu, hm] at h1
 cases h1
 rw [hs, h.uu h0] at h3
 exact ⟨lv2, hlw.trans h.lw, hR, (hF.keep _ h.blt h.bno).trans h.box, (hF.own _ h.blt).trans h.bno, h3, fun _ => by rw [hs]; exact h.uu h0, .inr ⟨h0, by rw [heu]; exact hm, h2⟩, h.fr.trans hF, ⟨by rw [heu]; exact h.keys.num, by rw [heu]; exact h.keys.len⟩, by rw [hwv]; exact h.wl⟩
theorem AU.set (h : AU H w own r Hx w' ow l lv s' u m k) {lv' : AV} {u' : Un} (hg : GrowIs Hx ow (.left r.unit) 3 1 lv' (u'.left.map iRow)) : AU H w own r (Hx.set l (.arr 194 4 [unRow u' lv'])) w' ow l lv' (s'.put r.unit u') u' m k := by
 have hb := get_set (o' := VO.arr 194 4 [unRow u' lv']) h.box h.lne
 rcases h.cas with ⟨h0, h1, h2⟩ | ⟨h0, h1, h2⟩
 · have hsame : Same (fun t => t = .no) Hx ow (Hx.set l (.arr 194 4 [unRow u' lv'])) ow := same_set h1
   refine ⟨h.lw, by rw [St.put, if_pos h0]; exact h.rep.set h1, hb, h.bno, ⟨List.getElem?_set_self h.llt, hsame.grow (by simp) hg⟩, fun h3 => absurd h0 h3, .inl ⟨h0, h1, h2⟩, ⟨by simpa using h.fr.len, fun x hx ho => by rw [List.getElem?_set_ne (by omega)]; exact h.fr.keep x hx ho, h.fr.own⟩, h.keys, h.wl⟩
 obtain ⟨k1, k2⟩ := h.rep.unitPut h1 h2 h.llt hg
 exact ⟨h.lw, by rw [St.put, if_neg h0]; exact k1, hb, h.bno, k2, fun _ => by simp only [St.put, if_neg h0, fset_self], .inr ⟨h0, h1, h2⟩, h.fr.trans (Fr.set (by rw [h2]; simp)), h.keys, h.wl⟩
theorem AU.put (h : AU H w own r Hx w' ow l lv s' u m k) {u' : Un} (hl : u'.left = u.left) : AU H w own r (Hx.set l (.arr 194 4 [unRow u' lv])) w' ow l lv (s'.put r.unit u') u' m k :=
 h.set (by rw [hl]; exact h.un.left)
theorem AU.push (h : AU H w own r Hx w' ow l lv s' u m k) (h0 : r.unit ≠ 0) {H1 : Hp} {rows : List (List AV)} {n : Nat} (hn : rows.length = n) {u' : Un} (h1 : H1.length = Hx.length + 1) (h2 : H1[Hx.length]? = some (.arr 3 1 rows)) (h3 : ∀ x, x < Hx.length → ow x ≠ .left r.unit → H1[x]? = Hx[x]?) (hr : u'.left.map iRow = rows) :
 AU H w own r (H1.set l (.arr 194 4 [unRow u' (.row false Hx.length 0 n)])) w' (own1 ow Hx.length (.left r.unit)) l (.row false Hx.length 0 n) (s'.put r.unit u') u' m k := by
 subst hn
 obtain ⟨_, hm, ho⟩ := h.cas.resolve_left fun c => h0 c.1
 obtain ⟨k1, k2, k3, k4⟩ := h.rep.leftPush hm ho h.llt h1 h2 h3 hr
 have hb := h.blt
 exact ⟨h.lw, by rw [St.put, if_neg h0]; exact k1, get_set ((h3 _ hb (by rw [h.bno]; simp)).trans h.box) h.lne, (own1_ne (by omega)).trans h.bno, k2, fun _ => by simp only [St.put, if_neg h0, fset_self], .inr ⟨h0, hm, k3⟩, h.fr.trans k4, h.keys, h.wl⟩
theorem AU.win (h : AU H w own r Hx w' ow l lv s' u m k) {H1 : Hp} {rows : List (List AV)} {n : Nat} (hn : rows.length = n) (h0 : r.unit ≠ 0) (h1 : H1.length = Hx.length + 1) (h2 : H1[Hx.length]? = some (.arr 3 1 rows)) (h3 : ∀ x, x < Hx.length → ow x ≠ .wins → H1[x]? = Hx[x]?) :
 AU H w own r (H1.set w'.lw (.arr 191 5 [[w'.rv, .mapr w'.lp, .mapr w'.ls, .mapr w'.lu, .row false Hx.length 0 n]])) { w' with wv := .row false Hx.length 0 n } (own1 ow Hx.length .wins) l lv s' u m n := by
 subst hn
 obtain ⟨_, hm, ho⟩ := h.cas.resolve_left fun c => h0 c.1
 obtain ⟨k1, k2⟩ := h.rep.winPush h1 h2 h3
 have hb := h.blt
 have hu := k2.un ho (by simp) (by simp) h.un
 have hbx := k2.at h.bno (by simp) h.box
 exact ⟨h.lw, k1, hbx.2, hbx.1, hu.2, h.uu, .inr ⟨h0, hm, hu.1⟩, h.fr.trans (k2.fr (by simp)), ⟨h.keys.num, h.keys.len⟩, Nat.le_refl _⟩
theorem AU.up (h : AU H w own r Hx w' ow l lv s' u m k) {k' : Nat} (hk : k ≤ k') : AU H w own r Hx w' ow l lv s' u m k' := { h with wl := Nat.le_trans h.wl hk }
end
open Classical in
theorem meetsW_eq {H : Hp} {w : Pst} {s : St} {own : Nat → Own} (hW : WRep H w s own) (r : Rc) : meetsW w s r = s.meets r := by
 unfold meetsW St.meets
 rw [Bool.eq_iff_iff, List.any_eq_true, decide_eq_true_eq]
 constructor
 · rintro ⟨e, _, h⟩; exact ⟨_, h⟩
 rintro ⟨n, h⟩
 rcases hW.un n with ⟨_, h2⟩ | ⟨l, lv, h1, _⟩
 · simp [meetsAt, h2, Un.new] at h
 by_cases hm : n ∈ w.eu.map (·.1)
 · obtain ⟨e, he, rfl⟩ := List.mem_map.1 hm
   exact ⟨e, he, h⟩
 rw [mget_none.2 hm] at h1; cases h1
theorem vlen_isL {P : Program} {H : Hp} {t e : TypeId} {x : AV} (hL : IsL x) (hu : P.underlying t = some (.slice e)) : (vlen P H t x).map (·, H) = some (.int .i64 (lrows x).length, H) := by
 rcases hL with rfl | ⟨tg, rows, rfl⟩ <;> simp only [vlen, hu] <;> rfl
theorem g_slice2 {P : Program} {H : Hp} {t T e : TypeId} {b : Bool} {l i m sz : Nat} {rows : List (List AV)} {n k : Int} (hu : P.underlying t = some (.slice e)) (hs : szOf P e = some sz) (h1 : H[l]? = some (.arr T sz rows)) (h0 : 0 ≤ n) (hn : n ≤ k) (hk : k ≤ m) :
 (vslice P H t (.row b l i m) (some (.int .i64 n)) (some (.int .i64 k)) none).map (·, H) = some (.row (cutT b m k.toNat none) l (i + n.toNat) (k.toNat - n.toNat), H) := by
 have hb : vbounds m (some (.int .i64 n)) (some (.int .i64 k)) none = some (n.toNat, k.toNat, none) := by
  simp only [vbounds, bnd]
  have h1 : 0 ≤ n := h0
  have h2 : n.toNat ≤ k.toNat := by omega
  have h3 : k.toNat ≤ m := by omega
  have h4 : 0 ≤ k := by omega
  simp [h1, h2, h3, h4]
 simp only [vslice, hu, hs, hb, h1]
 simp
theorem g_cut {P : Program} {H : Hp} {t T e : TypeId} {l n sz : Nat} {rows : List (List AV)} (hu : P.underlying t = some (.slice e)) (hs : szOf P e = some sz) (h1 : H[l]? = some (.arr T sz rows)) {k : Nat} (hk : k + 1 = n) :
 (vslice P H t (.row false l 0 n) none (some (.int .i64 ((n : Int) - 1))) none).map (·, H) = some (.row false l 0 k, H) := by
 have hb : vbounds n none (some (.int .i64 ((n : Int) - 1))) none = some (0, k, none) := by
  simp only [vbounds, bnd]
  subst hk
  have h1 : (((k + 1 : Nat) : Int) - 1).toNat = k := by omega
  rw [if_pos (show 0 ≤ ((k + 1 : Nat) : Int) - 1 by omega), h1]
  simp
 simp only [vslice, hu, hs, hb, h1]
 simp [cutT]
theorem valid_nb {r : Rc} (h : validP r = true) (h1 : r.kind = 1) : r.nb = r.na := by
 rw [valid_eq] at h
 simp only [validR, kindR, h1, beq_self_eq_true, if_true, Bool.and_eq_true, beq_iff_eq] at h
 have := h.2.1.1.1.2
 omega
theorem lend_rowB {H : Hp} {b : Bool} {l i n : Nat} {T sz : Nat} {rows : List (List AV)} (h : H[l]? = some (.arr T sz rows)) (hin : i + n ≤ rows.length) (hv : allVal rows = true) : lend H (.row b l i n) = some (.list .bor ((rows.drop i).take n)) := by
 have hr : rowsOf H (.row b l i n) = some ((rows.drop i).take n) := by simp only [rowsOf, h]; rw [if_pos hin]
 have hv2 : allVal ((rows.drop i).take n) = true := List.all_eq_true.2 fun q hq => List.all_eq_true.1 hv q (List.mem_of_mem_drop (List.mem_of_mem_take hq))
 simp only [lend, lend0, hr, hv2, if_true]
theorem byt_val {b : List (List AV)} (h : ∀ q ∈ b, ∃ v, q = [AV.int .u8 v]) : allVal b = true := List.all_eq_true.2 fun q hq => by obtain ⟨v, rfl⟩ := h q hq; rfl
end Go.Vi
namespace Go.Vi
structure WRow (cs : List AV) (rv uv : AV) (s : St) : Prop where
 len : cs.length = 15482
 c0 : cs[0]? = some rv
 c1 : cs[1]? = some uv
 byt : ∀ (p i : Nat) (x : AV), p < 120 → (s.page p)[i]? = some [x] → cs[2 + p * 128 + i]? = some x
 stm : ∀ p : Nat, p < 120 → cs[15362 + p]? = some (.int .i64 (s.stamp p))
structure PgOk (s : St) : Prop where
 len : ∀ k, (s.page k).length = 128
 byt : ∀ k, ∀ q ∈ s.page k, ∃ v, q = [AV.int .u8 v]
theorem PgOk.at {s : St} (h : PgOk s) (k : Int) {i : Nat} (hi : i < 128) : ∃ v, (s.page k)[i]? = some [.int .u8 v] := by
 have hl := h.len k
 have := List.getElem?_eq_getElem (l := s.page k) (i := i) (by omega)
 obtain ⟨v, hv⟩ := h.byt k _ (List.mem_of_getElem? this)
 exact ⟨v, by rw [this, hv]⟩
theorem PgOk.new : PgOk St.new := ⟨fun k => by simp [St.new, z128], fun k q hq => ⟨0, List.eq_of_mem_replicate hq⟩⟩
section
variable {cs : List AV} {rv uv : AV} {s : St}
theorem WRow.setR (h : WRow cs rv uv s) (x : AV) : WRow (setC cs 0 [x]) x uv s := by
 have hl := h.len
 have hg := setC_get (r := cs) (cs := [x]) (k := 0) (by simp; omega)
 refine ⟨by rw [setC_length (by simp; omega)]; exact hl, ?_, ?_, fun p i y hp hi => ?_, fun p hp => ?_⟩
 · rw [hg]; simp
 · rw [hg]; simpa using h.c1
 · rw [hg, if_neg (by simp)]; exact h.byt p i y hp hi
 rw [hg, if_neg (by simp)]; exact h.stm p hp
theorem WRow.setU (h : WRow cs rv uv s) (x : AV) : WRow (setC cs 1 [x]) rv x s := by
 have hl := h.len
 have hg := setC_get (r := cs) (cs := [x]) (k := 1) (by simp; omega)
 refine ⟨by rw [setC_length (by simp; omega)]; exact hl, ?_, ?_, fun p i y hp hi => ?_, fun p hp => ?_⟩
 · rw [hg]; simpa using h.c0
 · rw [hg]; simp
 · rw [hg, if_neg (by simp; omega)]; exact h.byt p i y hp hi
 rw [hg, if_neg (by simp; omega)]; exact h.stm p hp
theorem flat1 : ∀ {b : List (List AV)}, (∀ q ∈ b, ∃ v, q = [AV.int .u8 v]) → b.flatten.length = b.length ∧ ∀ (i : Nat) (x : AV), b[i]? = some [x] → b.flatten[i]? = some x
 | [], _ => ⟨rfl, fun i x h => by cases h⟩
 | q :: r, h => by
   obtain ⟨v, rfl⟩ := h q (by simp)
   obtain ⟨h1, h2⟩ := flat1 (b := r) fun q hq => h q (by simp [hq])
   refine ⟨by simp [h1], fun i x hi => ?_⟩
   cases i with
   | zero => simpa using hi
   | succ i => simpa using h2 i x (by simpa using hi)
theorem WRow.lay (h : WRow cs rv uv s) (hP : PgOk s) {p pos : Nat} {b : List (List AV)} (hp : p < 120) (hb : ∀ q ∈ b, ∃ v, q = [AV.int .u8 v]) (hin : pos + b.length ≤ 128) :
 WRow (setC cs (2 + p * 128 + pos) b.flatten) rv uv { s with page := fset s.page p (layB (s.page p) pos b) } := by
 have hl := h.len
 obtain ⟨f1, f2⟩ := flat1 hb
 have hpl := hP.len p
 have hk : 2 + p * 128 + pos + b.flatten.length ≤ cs.length := by rw [f1, hl]; omega
 have hg := setC_get (r := cs) (cs := b.flatten) (k := 2 + p * 128 + pos) hk
 refine ⟨by rw [setC_length hk]; exact hl, ?_, ?_, fun q i y hq hi => ?_, fun q hq => ?_⟩
 · rw [hg, if_neg (by omega)]; exact h.c0
 · rw [hg, if_neg (by omega)]; exact h.c1
 · by_cases hqp : q = p
   · subst hqp
     simp only [fset_self] at hi
     have hil : i < 128 := by
      have := (List.getElem?_eq_some_iff.1 hi).1
      rw [layB_length (by omega)] at this
      omega
     unfold layB at hi
     by_cases h1 : i < pos
     · rw [hg, if_neg (by omega)]
       rw [List.append_assoc, List.getElem?_append_left (by simp; omega), List.getElem?_take_of_lt h1] at hi
       exact h.byt q i y hp hi
     by_cases h2 : i < pos + b.length
     · rw [hg, if_pos (by omega)]
       rw [List.append_assoc, List.getElem?_append_right (by simp; omega), List.getElem?_append_left (by simp; omega)] at hi
       have e : 2 + q * 128 + i - (2 + q * 128 + pos) = i - (List.take pos (s.page q)).length := by simp; omega
       rw [e]
       exact f2 _ y hi
     rw [hg, if_neg (by omega)]
     rw [List.getElem?_append_right (by simp; omega), List.getElem?_drop] at hi
     refine h.byt q i y hp ?_
     rw [← hi]
     congr 1
     simp
     omega
   simp only [fset_ne (show (q : Int) ≠ p by omega)] at hi
   have hil : i < 128 := by have := (List.getElem?_eq_some_iff.1 hi).1; rw [hP.len] at this; exact this
   rw [hg, if_neg (by rcases Nat.lt_or_gt_of_ne hqp with h1 | h1 <;> omega)]
   exact h.byt q i y hq hi
 rw [hg, if_neg (by omega)]
 exact h.stm q hq
theorem WRow.stamp (h : WRow cs rv uv s) (hP : PgOk s) {p : Nat} {n : Int} (hp : p < 120) : WRow (setC cs (15362 + p) [.int .i64 n]) rv uv { s with stamp := fset s.stamp p n } := by
 have hl := h.len
 have hk : 15362 + p + [AV.int .i64 n].length ≤ cs.length := by rw [hl]; simp; omega
 have hg := setC_get (r := cs) (cs := [.int .i64 n]) (k := 15362 + p) hk
 refine ⟨by rw [setC_length hk]; exact hl, ?_, ?_, fun q i y hq hi => ?_, fun q hq => ?_⟩
 · rw [hg, if_neg (by omega)]; exact h.c0
 · rw [hg, if_neg (by omega)]; exact h.c1
 · rw [hg, if_neg]
   · exact h.byt q i y hq hi
   have hil : i < 128 := by have := (List.getElem?_eq_some_iff.1 hi).1; rw [hP.len] at this; exact this
   simp only [List.length_singleton]; omega
 by_cases e : q = p
 · subst e
   rw [hg, if_pos (by simp)]
   simp [fset_self]
 rw [hg, if_neg (by simp; omega)]
 simp only [fset_ne (show (q : Int) ≠ p by omega)]
 exact h.stm q hq
theorem WRow.bytes (h : WRow cs rv uv s) (hP : PgOk s) {p pos n : Nat} (hp : p < 120) (hin : pos + n ≤ 128) : chunk 1 n (cs.drop (2 + p * 128 + pos)) = ((s.page p).drop pos).take n := by
 apply List.ext_getElem?
 intro i
 by_cases hi : i < n
 · rw [chunk_get _ _ _ _ hi, List.getElem?_take_of_lt hi, List.getElem?_drop]
   obtain ⟨v, hv⟩ := hP.at p (i := pos + i) (by omega)
   rw [hv, Nat.mul_one, List.drop_drop]
   have := h.byt p _ _ hp hv
   have hlt := (List.getElem?_eq_some_iff.1 this).1
   rw [show 2 + p * 128 + pos + i = 2 + p * 128 + (pos + i) by omega, List.drop_eq_getElem_cons hlt]
   rw [List.getElem?_eq_getElem hlt] at this
   simp only [Option.some.injEq] at this
   rw [this]
   rfl
 rw [List.getElem?_eq_none (by rw [chunk_length]; omega), List.getElem?_eq_none (by simp; omega)]
end
end Go.Vi
