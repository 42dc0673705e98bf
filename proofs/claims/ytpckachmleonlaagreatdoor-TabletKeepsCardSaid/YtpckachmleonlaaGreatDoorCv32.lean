/- Words and walks for Split and Tablet: texts of these sessions, and of the kit's print, cut down to what is used (M4 O4 G3). -/
import Derived.Test.YtpckachmleonlaaGreatDoorCv31
import Derived.Test.YtpckachmleonlaaGreatDoorCv30
section
set_option linter.unusedVariables false
set_option linter.unusedSimpArgs false
namespace Go.Proofs.YtpckachmleonlaaGreatDoor
open Go.RowKit Go.Proofs.YtpckachmleonlaaGreatDoorW.PrintWords
structure OpM where
 kind : Int
 k : KeyM
 to_ : ByteArray
 value : List Int
 want : List Int
 has : Bool
 sub : List OpM
def rowB (k : KeyM) : Bool := decide (k.f1.size = 0 ∧ k.f2.size = 0 ∧ k.f3 = 0 ∧ k.f0.size ≤ 32)
def keyG (k : KeyM) : Bool := Cp.okB k.f0 k.f1 k.f2
def spareB (o : OpM) : Bool :=
 (decide (0 < o.value.length) && !(decide (o.kind = 1) || decide (o.kind = 5))) || ((o.has || decide (0 < o.want.length)) && !decide (o.kind = 5)) || (decide (0 < o.want.length) && !o.has) || (decide (o.to_.size ≠ 0) && !decide (o.kind = 8)) || (decide (0 < o.sub.length) && !decide (o.kind = 6))
def valsB (o : OpM) : Bool := decide (o.value.length ≤ 256) && decide (o.want.length ≤ 256)
def leafK (o : OpM) : Bool :=
 if o.kind = 3 ∨ o.kind = 7 then decide (o.k.f3 = 0) && keyG o.k
 else if o.kind = 1 ∨ o.kind = 2 ∨ o.kind = 5 then keyG o.k
 else if o.kind = 4 then rowB o.k && decide (o.k.f0.size ≠ 0)
 else if o.kind = 8 then rowB o.k && decide (o.to_.size ≤ 32)
 else false
def leafB (o : OpM) : Bool := leafK o && !spareB o && valsB o
def subB (r : ByteArray) (s : OpM) : Bool := decide (1 ≤ s.kind) && decide (s.kind ≤ 4) && decide (s.k.f0 = r) && leafB s
def opB (o : OpM) : Bool :=
 if o.kind = 6 then o.sub.all (subB o.k.f0) && decide (1 ≤ o.sub.length) && decide (o.sub.length ≤ 8) && rowB o.k && decide (o.k.f0.size ≠ 0) && !spareB o && valsB o
 else leafB o
def lastK (l : List CellM) : KeyM := (l.getD (l.length - 1) ⟨⟨⟨#[]⟩, ⟨#[]⟩, ⟨#[]⟩, 0⟩, [], false⟩).f0
def hasK (k : KeyM) (cs : List CellM) : Bool := cs.any fun y => decide (y.f0 = k)
def putC (k : KeyM) (v : List Int) (cs : List CellM) : List CellM × Int :=
 if hasK k (colC k cs) = false ∧ (colC k cs).length < 4 ∧ 32 ≤ cs.length then (cs, 9)
 else (if 4 < (colC k (putF cs ⟨k, v, false⟩)).length then delF (putF cs ⟨k, v, false⟩) (lastK (colC k (putF cs ⟨k, v, false⟩))) else putF cs ⟨k, v, false⟩, 0)
def newC (k : KeyM) (cs : List CellM) : Option CellM := (colC k cs).head?.bind fun x => if x.f2 then none else some x
def checkB (o : OpM) (cs : List CellM) : Bool := match newC o.k cs with
 | none => !o.has
 | some x => o.has && ((strOfNums x.f1).toList == (strOfNums o.want).toList)
def lessC (p : CellM → Bool) (cs : List CellM) : List CellM × Int := if (cs.filter p).length = 0 then (cs, 7) else (cs.filter fun x => !p x, 0)
def zCg (o : OpM) (cs : List CellM) : List CellM × Int :=
 if o.kind = 1 then putC o.k o.value cs
 else if o.kind = 5 then (if checkB o cs then putC o.k o.value cs else (cs, 18))
 else if o.kind = 2 then (if (colC o.k cs).any (fun y => decide (y.f0 = o.k) && !y.f2) then (putF cs ⟨o.k, [], true⟩, 0) else (cs, 7))
 else if o.kind = 3 then lessC (fun x => colB x.f0 o.k) cs
 else if o.kind = 4 then lessC (fun x => decide (x.f0.f0 = o.k.f0)) cs
 else (cs, 7)
def zFj : List OpM → List CellM → List CellM × Int
 | [], cs => (cs, 0)
 | s :: l, cs => if (zCg s cs).2 = 0 then zFj l (zCg s cs).1 else zCg s cs
def scanL (r t : ByteArray) (cs : List CellM) : List CellM := (rowsC r t cs).filter fun x => !x.f2
def offM (a b : ByteArray) (o : OpM) : Bool := if o.kind = 8 then ltS o.k.f0 a || (decide (b.size ≠ 0) && (ltS b o.k.f0 || ltS b o.to_)) else !insT a b o.k.f0
def zFg (a b : ByteArray) (o : OpM) (cs : List CellM) : List CellM × Int × List CellM × Bool :=
 if opB o = false then (cs, 6, [], false)
 else if offM a b o then (cs, 8, [], false)
 else if o.kind = 7 then (match newC o.k cs with
  | none => (cs, 7, [], false)
  | some x => (cs, 0, [x], false))
 else if o.kind = 8 then (cs, 0, (scanL o.k.f0 o.to_ cs).take 16, decide (16 < (scanL o.k.f0 o.to_ cs).length))
 else if o.kind = 6 then (if (zFj o.sub cs).2 = 0 then ((zFj o.sub cs).1, 0, [], false) else (cs, (zFj o.sub cs).2, [], false))
 else ((zCg o cs).1, (zCg o cs).2, [], false)
theorem colB_self (k : KeyM) : colB k k = true := col0_eq.1 rfl
theorem tri_len (cs : List CellM) (k : KeyM) : (cs.filter fun y => decide (cmpK y.f0 k < 0)).length + (cs.filter fun y => decide (k = y.f0)).length + (cs.filter fun y => decide (cmpK k y.f0 < 0)).length = cs.length := by
 induction cs with
 | nil => rfl
 | cons y l ih =>
  have h1 := cmpK_swap k y.f0
  have h2 := cmpK_zero (a := k) (b := y.f0)
  simp only [List.filter_cons, decide_eq_true_eq]
  by_cases h3 : k = y.f0
  ·have h4 := h2.2 h3
   rw [if_neg (by omega), if_pos h3, if_neg (by omega)]
   simp only [List.length_cons]
   omega
  ·have h4 : cmpK k y.f0 ≠ 0 := fun e => h3 (h2.1 e)
   by_cases h5 : cmpK k y.f0 < 0
   ·rw [if_neg (by omega), if_neg h3, if_pos h5]
    simp only [List.length_cons]
    omega
   ·rw [if_pos (by omega), if_neg h3, if_neg h5]
    simp only [List.length_cons]
    omega
theorem hasK_len {k : KeyM} {cs : List CellM} : hasK k cs = true ↔ 1 ≤ (cs.filter fun y => decide (k = y.f0)).length := by
 unfold hasK
 rw [List.any_eq_true]
 constructor
 ·rintro ⟨x, hx, h⟩
  have h := of_decide_eq_true h
  exact List.length_pos_of_mem (List.mem_filter.2 ⟨hx, decide_eq_true h.symm⟩)
 ·intro h
  obtain ⟨x, hx⟩ := List.exists_mem_of_length_pos h
  obtain ⟨h1, h2⟩ := List.mem_filter.1 hx
  exact ⟨x, h1, decide_eq_true (of_decide_eq_true h2).symm⟩
theorem putF_size (cs : List CellM) (x : CellM) : (putF cs x).length + (cs.filter fun y => decide (x.f0 = y.f0)).length = cs.length + 1 := by
 have h := tri_len cs x.f0
 unfold putF
 rw [List.length_append, List.length_cons]
 omega
theorem colC_put (j : KeyM) (cs : List CellM) (x : CellM) : colC j (putF cs x) = (colC j cs).filter (fun y => decide (cmpK y.f0 x.f0 < 0)) ++ ((if colB x.f0 j then [x] else []) ++ (colC j cs).filter (fun y => decide (cmpK x.f0 y.f0 < 0))) := by
 unfold putF colC
 rw [List.filter_append, List.filter_cons]
 simp only [List.filter_filter, Bool.and_comm]
 split <;> rfl
theorem colC_putLen (j : KeyM) (cs : List CellM) (x : CellM) : (colC j (putF cs x)).length + ((colC j cs).filter fun y => decide (x.f0 = y.f0)).length = (colC j cs).length + if colB x.f0 j then 1 else 0 := by
 have h := tri_len (colC j cs) x.f0
 rw [colC_put, List.length_append, List.length_append]
 split <;> simp only [List.length_cons, List.length_nil] <;> omega
theorem col_le {cs : List CellM} (h : manyB cs = false) (k : KeyM) : (colC k cs).length ≤ 4 := by
 rcases Nat.eq_zero_or_pos (colC k cs).length with h0 | h0
 ·omega
 ·obtain ⟨y, hy⟩ := List.exists_mem_of_length_pos h0
  obtain ⟨h1, h2⟩ := List.mem_filter.1 hy
  have h3 := List.any_eq_false.1 h y h1
  rw [colC_same h2] at h3
  simpa using h3
theorem del_lt {cs : List CellM} {y : CellM} (h : y ∈ cs) : (delF cs y.f0).length + 1 ≤ cs.length := by
 have h1 : (delF cs y.f0).length < cs.length := List.length_filter_lt_length_iff_exists.2 ⟨y, h, by simp⟩
 omega
theorem lastK_mem {l : List CellM} (h : 0 < l.length) : ∃ y ∈ l, lastK l = y.f0 := by
 refine ⟨l[l.length - 1]'(by omega), List.getElem_mem _, ?_⟩
 unfold lastK
 rw [List.getD_eq_getElem?_getD, List.getElem?_eq_getElem (by omega)]
 rfl
section
variable {a b : ByteArray} {cs : List CellM}
theorem TabL.sub (h : TabL a b cs) (p : CellM → Bool) : TabL a b (cs.filter p) := ⟨h.ok.filter _, h.rt, fun x hx => h.ins x (List.mem_filter.1 hx).1, manyB_sub List.filter_sublist h.col, Nat.le_trans (List.length_filter_le _ _) h.len⟩
theorem put_many {x : CellM} (hm : manyB cs = false) (hc : (colC x.f0 (putF cs x)).length ≤ 4) : manyB (putF cs x) = false := any_false fun y hy => decide_eq_false (by
 have e := colB_comm x.f0 y.f0
 cases h1 : colB x.f0 y.f0 with
 | true =>
  rw [h1] at e
  rw [colC_same e.symm]
  omega
 | false =>
  rcases mem_putF.1 hy with h2 | h2
  ·rw [h2, colB_self] at h1
   cases h1
  ·have h3 := colC_putLen y.f0 cs x
   rw [h1] at h3
   have h4 := col_le hm y.f0
   simp only [Bool.false_eq_true, if_false] at h3
   omega)
theorem TabL.put (h : TabL a b cs) {x : CellM} (hx : OkC x) (hi : insT a b x.f0.f0 = true) (hc : (colC x.f0 (putF cs x)).length ≤ 4) (hl : (putF cs x).length ≤ 32) : TabL a b (putF cs x) := by
 refine ⟨h.ok.put hx, h.rt, fun y hy => ?_, put_many h.col hc, hl⟩
 rcases mem_putF.1 hy with rfl | h2
 ·exact hi
 ·exact h.ins y h2.1
theorem colC_sub {j : KeyM} {p : CellM → Bool} {l : List CellM} : (colC j (l.filter p)).length ≤ (colC j l).length := (List.filter_sublist.filter _).length_le
theorem TabL.putDel (h : TabL a b cs) {x : CellM} (hx : OkC x) (hi : insT a b x.f0.f0 = true) (hc : 4 < (colC x.f0 (putF cs x)).length) (hl : (putF cs x).length ≤ 33) : TabL a b (delF (putF cs x) (lastK (colC x.f0 (putF cs x)))) := by
 obtain ⟨y, hy, ey⟩ := lastK_mem (show 0 < (colC x.f0 (putF cs x)).length by omega)
 have hy1 := (List.mem_filter.1 hy).1
 rw [ey]
 have hlen := del_lt hy1
 have hle := colC_putLen x.f0 cs x
 have hcl := col_le h.col x.f0
 rw [colB_self, if_pos rfl] at hle
 have hcol : (colC x.f0 (delF (putF cs x) y.f0)).length ≤ 4 := by
  have h1 : colC x.f0 (delF (putF cs x) y.f0) = delF (colC x.f0 (putF cs x)) y.f0 := by
   unfold colC delF
   rw [List.filter_filter, List.filter_filter]
   simp only [Bool.and_comm]
  have h2 := del_lt hy
  rw [h1]
  omega
 refine ⟨(h.ok.put hx).del _, h.rt, fun z hz => ?_, any_false fun z hz => decide_eq_false ?_, by omega⟩
 ·rcases mem_putF.1 (List.mem_filter.1 hz).1 with rfl | h2
  ·exact hi
  ·exact h.ins z h2.1
 ·have e := colB_comm x.f0 z.f0
  cases h1 : colB x.f0 z.f0 with
  | true =>
   rw [h1] at e
   rw [colC_same e.symm]
   omega
  | false =>
   have h5 := (List.mem_filter.1 hz).1
   rcases mem_putF.1 h5 with h2 | h2
   ·rw [h2, colB_self] at h1
    cases h1
   ·have h3 := colC_putLen z.f0 cs x
    rw [h1] at h3
    have h4 := col_le h.col z.f0
    have h6 : (colC z.f0 (delF (putF cs x) y.f0)).length ≤ (colC z.f0 (putF cs x)).length := colC_sub
    simp only [Bool.false_eq_true, if_false] at h3
    omega
theorem TabL.putC (h : TabL a b cs) {k : KeyM} {v : List Int} (hx : OkC ⟨k, v, false⟩) (hi : insT a b k.f0 = true) : TabL a b (putC k v cs).1 := by
 unfold Go.Proofs.YtpckachmleonlaaGreatDoor.putC
 split
 ·exact h
 rename_i hn
 have hsz := putF_size cs ⟨k, v, false⟩
 have hcl := colC_putLen k cs ⟨k, v, false⟩
 simp only [colB_self, if_true] at hcl
 simp only at hsz
 have hlen := h.len
 split
 ·rename_i h4
  exact h.putDel hx hi h4 (by omega)
 ·rename_i h4
  refine h.put hx hi (by simpa using h4) ?_
  cases hh : hasK k (colC k cs) with
  | true =>
   have h5 := hasK_len.1 hh
   have h6 : ((colC k cs).filter fun y => decide (k = y.f0)).length ≤ (cs.filter fun y => decide (k = y.f0)).length := (List.filter_sublist.filter _).length_le
   omega
  | false =>
   have h5 : ¬ 1 ≤ ((colC k cs).filter fun y => decide (k = y.f0)).length := fun h => by rw [hasK_len.2 h] at hh; cases hh
   have h6 : ¬ ((colC k cs).length < 4 ∧ 32 ≤ cs.length) := fun h => hn ⟨hh, h⟩
   omega
def TimeK (k : KeyM) : Prop := 0 ≤ k.f3 ∧ k.f3 < 18446744073709551616
theorem okC_leaf {o : OpM} (h : leafB o = true) (hk : o.kind = 1 ∨ o.kind = 5) (ht : TimeK o.k) : OkC ⟨o.k, o.value, false⟩ := by
 unfold leafB leafK valsB at h
 simp only [Bool.and_eq_true] at h
 have h1 := h.1.1
 rw [if_neg (by omega), if_pos (by omega)] at h1
 exact ⟨h1, ht.1, ht.2, of_decide_eq_true h.2.1, fun h => by cases h⟩
theorem okC_leafD {o : OpM} (h : leafB o = true) (hk : o.kind = 2) (ht : TimeK o.k) : OkC ⟨o.k, [], true⟩ := by
 unfold leafB leafK valsB at h
 simp only [Bool.and_eq_true] at h
 have h1 := h.1.1
 rw [if_neg (by omega), if_pos (by omega)] at h1
 exact ⟨h1, ht.1, ht.2, Nat.zero_le _, fun h => rfl⟩
theorem TabL.less (h : TabL a b cs) (p : CellM → Bool) : TabL a b (lessC p cs).1 := by
 unfold lessC
 split
 ·exact h
 ·exact h.sub _
theorem any_hasK {k : KeyM} {p : CellM → Bool} (h : (colC k cs).any (fun y => decide (y.f0 = k) && p y) = true) : 1 ≤ ((colC k cs).filter fun y => decide (k = y.f0)).length := by
 obtain ⟨x, hx, h1⟩ := List.any_eq_true.1 h
 rw [Bool.and_eq_true] at h1
 exact hasK_len.1 (List.any_eq_true.2 ⟨x, hx, h1.1⟩)
theorem TabL.write (h : TabL a b cs) {o : OpM} (ho : leafB o = true) (ht : TimeK o.k) (hi : insT a b o.k.f0 = true) : TabL a b (zCg o cs).1 := by
 unfold zCg
 split
 ·rename_i hk
  exact h.putC (okC_leaf ho (.inl hk) ht) hi
 split
 ·rename_i hk
  split
  ·exact h.putC (okC_leaf ho (.inr hk) ht) hi
  ·exact h
 split
 ·rename_i hk
  split
  ·rename_i hany
   have h5 := any_hasK hany
   have hsz := putF_size cs ⟨o.k, [], true⟩
   have hcl := colC_putLen o.k cs ⟨o.k, [], true⟩
   have h6 : ((colC o.k cs).filter fun y => decide (o.k = y.f0)).length ≤ (cs.filter fun y => decide (o.k = y.f0)).length := (List.filter_sublist.filter _).length_le
   simp only [colB_self, if_true] at hcl
   simp only at hsz
   have hc4 := col_le h.col o.k
   have hlen := h.len
   refine h.put (okC_leafD ho hk ht) hi ?_ ?_
   ·simp only
    omega
   ·omega
  ·exact h
 split
 ·exact h.less _
 split
 ·exact h.less _
 ·exact h
theorem TabL.batch {r : ByteArray} (hi : insT a b r = true) : ∀ (l : List OpM) (cs : List CellM), TabL a b cs → (∀ s ∈ l, subB r s = true ∧ TimeK s.k) → TabL a b (zFj l cs).1
 | [], cs, h, _ => h
 | s :: l, cs, h, hs => by
  obtain ⟨h1, h2⟩ := hs s (by simp)
  unfold subB at h1
  simp only [Bool.and_eq_true, decide_eq_true_eq] at h1
  have h3 := h.write h1.2 h2 (by rw [h1.1.2]; exact hi)
  unfold zFj
  split
  ·exact TabL.batch hi l _ h3 fun s hs' => hs s (by simp [hs'])
  ·exact h3
def TimesO (o : OpM) : Prop := TimeK o.k ∧ ∀ s ∈ o.sub, TimeK s.k
theorem opB_batch {o : OpM} (h : opB o = true) (hk : o.kind = 6) : (∀ s ∈ o.sub, subB o.k.f0 s = true) ∧ 1 ≤ o.sub.length ∧ o.sub.length ≤ 8 ∧ rowB o.k = true ∧ o.k.f0.size ≠ 0 := by
 unfold opB at h
 rw [if_pos hk] at h
 simp only [Bool.and_eq_true, decide_eq_true_eq, List.all_eq_true] at h
 exact ⟨h.1.1.1.1.1.1, h.1.1.1.1.1.2, h.1.1.1.1.2, h.1.1.1.2, h.1.1.2⟩
theorem opB_leaf {o : OpM} (h : opB o = true) (hk : o.kind ≠ 6) : leafB o = true := by
 unfold opB at h
 rwa [if_neg hk] at h
theorem offM_ins {o : OpM} (h : offM a b o = false) (hk : o.kind ≠ 8) : insT a b o.k.f0 = true := by
 unfold offM at h
 rw [if_neg hk] at h
 simpa using h
theorem TabL.apply (h : TabL a b cs) {o : OpM} (ht : TimesO o) : TabL a b (zFg a b o cs).1 := by
 unfold zFg
 split
 ·exact h
 rename_i h1
 split
 ·exact h
 rename_i h2
 have h1 : opB o = true := by simpa using h1
 have h2 : offM a b o = false := by simpa using h2
 split
 ·split <;> exact h
 split
 ·exact h
 rename_i h8
 split
 ·rename_i h6
  obtain ⟨g1, _⟩ := opB_batch h1 h6
  split
  ·exact TabL.batch (offM_ins h2 h8) _ _ h fun s hs => ⟨g1 s hs, ht.2 s hs⟩
  ·exact h
 ·rename_i h6
  exact h.write (opB_leaf h1 h6) ht.1 (offM_ins h2 h8)
end
end Go.Proofs.YtpckachmleonlaaGreatDoor
end
section
set_option linter.unusedVariables false
set_option linter.unusedSimpArgs false
namespace Go.Proofs.YtpckachmleonlaaGreatDoor
open Go.RowKit Go.Proofs.YtpckachmleonlaaGreatDoorW.PrintWords
def kOF (d : Kd OpM) : Kd OpM := Kd.iso (Kd.pair (Kd.int .i64) (Kd.pair PSplitCuts.k46 (Kd.pair Kd.string (Kd.pair (Kd.slice 5 kB) (Kd.pair (Kd.slice 5 kB) (Kd.pair Kd.bool (Kd.slice 56 d))))))) (fun o : OpM => (o.kind, o.k, o.to_, o.value, o.want, o.has, o.sub))
def kO (n : Nat) : Kd OpM := Kd.upto kOF 10 [5, 56] n
theorem kO_sz (n : Nat) : (kO n).sz = 10 := by cases n <;> rfl
def opV (o : OpM) (A1 : Option Addr) (c1 : Nat) (A2 : Option Addr) (c2 : Nat) (A3 : Option Addr) (c3 : Nat) : Value :=
  .agg #[.int .i64 o.kind, .string o.k.f0, .string o.k.f1, .string o.k.f2, .int .u64 o.k.f3, .string o.to_, .slice A1 o.value.length c1, .slice A2 o.want.length c2, .bool o.has, .slice A3 o.sub.length c3]
structure OpAt (m : Nat) (w : World) (o : OpM) (A1 : Option Addr) (c1 : Nat) (A2 : Option Addr) (c2 : Nat) (A3 : Option Addr) (c3 : Nat) : Prop where
  v : BAt w ⟨A1, o.value.length, c1⟩ o.value
  u : BAt w ⟨A2, o.want.length, c2⟩ o.want
  c : o.sub.length ≤ c3
  s : Kd.C (kO m) w A3 o.sub.length o.sub
section
variable {m n : Nat} {w w' : World} {o : OpM} {A1 A2 A3 : Option Addr} {c1 c2 c3 : Nat}
theorem OpAt.keep (h : OpAt m w o A1 c1 A2 c2 A3 c3) (hb : Below w.heap.size w w') : OpAt m w' o A1 c1 A2 c2 A3 c3 := ⟨h.v.keep hb, h.u.keep hb, h.c, Kd.zBb h.s hb⟩
theorem kO_open {cs : List Value} (h : (kO n).K w o cs) : ∃ m A1 c1 A2 c2 A3 c3, n = m + 1 ∧ cs = [.int .i64 o.kind, .string o.k.f0, .string o.k.f1, .string o.k.f2, .int .u64 o.k.f3, .string o.to_, .slice A1 o.value.length c1, .slice A2 o.want.length c2, .bool o.has, .slice A3 o.sub.length c3] ∧ OpAt m w o A1 c1 A2 c2 A3 c3 := by
  cases n with
  | zero => exact h.elim
  | succ m =>
    obtain ⟨_, _, rfl, rfl, _, _, rfl, ⟨_, _, rfl, rfl, _, _, rfl, rfl, _, _, rfl, rfl, rfl⟩, _, _, rfl, rfl, _, _, rfl, ⟨A1, c1, rfl, l1, g1⟩, _, _, rfl, ⟨A2, c2, rfl, l2, g2⟩, _, _, rfl, rfl, ⟨A3, c3, rfl, l3, g3⟩⟩ := h
    exact ⟨m, A1, c1, A2, c2, A3, c3, rfl, rfl, ⟨rfl, l1, g1⟩, ⟨rfl, l2, g2⟩, l3, g3⟩
def zOp : OpM := ⟨0, ⟨⟨#[]⟩, ⟨#[]⟩, ⟨#[]⟩, 0⟩, ⟨#[]⟩, [], [], false, []⟩
theorem at_kO {A : Option Addr} {k : Nat} {xs : List OpM} (h : Kd.C (kO n) w A k xs) (i : Nat) (hi : i < k) : ∃ ad m A1 c1 A2 c2 A3 c3, A = some ad ∧ n = m + 1 ∧
    w.cell? (ad.add (i * 10)) = some (.int .i64 (xs.getD i zOp).kind) ∧ w.cell? ⟨(ad.add (i * 10)).block, (ad.add (i * 10)).off + 1, none⟩ = some (.string (xs.getD i zOp).k.f0) ∧ w.cell? ⟨(ad.add (i * 10)).block, (ad.add (i * 10)).off + 2, none⟩ = some (.string (xs.getD i zOp).k.f1) ∧ w.cell? ⟨(ad.add (i * 10)).block, (ad.add (i * 10)).off + 3, none⟩ = some (.string (xs.getD i zOp).k.f2) ∧ w.cell? ⟨(ad.add (i * 10)).block, (ad.add (i * 10)).off + 4, none⟩ = some (.int .u64 (xs.getD i zOp).k.f3) ∧
    w.cell? ⟨(ad.add (i * 10)).block, (ad.add (i * 10)).off + 5, none⟩ = some (.string (xs.getD i zOp).to_) ∧ w.cell? ⟨(ad.add (i * 10)).block, (ad.add (i * 10)).off + 6, none⟩ = some (.slice A1 (xs.getD i zOp).value.length c1) ∧ w.cell? ⟨(ad.add (i * 10)).block, (ad.add (i * 10)).off + 7, none⟩ = some (.slice A2 (xs.getD i zOp).want.length c2) ∧ w.cell? ⟨(ad.add (i * 10)).block, (ad.add (i * 10)).off + 8, none⟩ = some (.bool (xs.getD i zOp).has) ∧ w.cell? ⟨(ad.add (i * 10)).block, (ad.add (i * 10)).off + 9, none⟩ = some (.slice A3 (xs.getD i zOp).sub.length c3) ∧ OpAt m w (xs.getD i zOp) A1 c1 A2 c2 A3 c3 := by
  obtain ⟨ad, c, e, _, hK, hc0⟩ := Kd.C_get h zOp (i : Int) (by omega) (by omega)
  rw [Int.toNat_natCast] at hK hc0
  rw [kO_sz] at hc0
  obtain ⟨m, A1, c1, A2, c2, A3, c3, hn, rfl, hat⟩ := kO_open hK
  have hf : ∀ j u, 0 < j → [Value.int .i64 (xs.getD i zOp).kind, .string (xs.getD i zOp).k.f0, .string (xs.getD i zOp).k.f1, .string (xs.getD i zOp).k.f2, .int .u64 (xs.getD i zOp).k.f3, .string (xs.getD i zOp).to_, .slice A1 (xs.getD i zOp).value.length c1, .slice A2 (xs.getD i zOp).want.length c2, .bool (xs.getD i zOp).has, .slice A3 (xs.getD i zOp).sub.length c3][j]? = some u → w.cell? ⟨(ad.add (i * 10)).block, (ad.add (i * 10)).off + j, none⟩ = some u := fun j u hj hu => by
    rw [← zEk _ _ j hj]
    exact hc0 j u hu
  exact ⟨ad, m, A1, c1, A2, c2, A3, c3, e, hn, hc0 0 _ rfl, hf 1 _ (by omega) rfl, hf 2 _ (by omega) rfl, hf 3 _ (by omega) rfl, hf 4 _ (by omega) rfl, hf 5 _ (by omega) rfl, hf 6 _ (by omega) rfl, hf 7 _ (by omega) rfl, hf 8 _ (by omega) rfl, hf 9 _ (by omega) rfl, hat⟩
theorem opBlk {g : Nat} (h : w.heap[g]? = some (.cells #[.int .i64 o.kind, .string o.k.f0, .string o.k.f1, .string o.k.f2, .int .u64 o.k.f3, .string o.to_, .slice A1 o.value.length c1, .slice A2 o.want.length c2, .bool o.has, .slice A3 o.sub.length c3] 56 (0, 0))) :
    w.cell? ⟨g, 0, none⟩ = some (.int .i64 o.kind) ∧ w.cell? ⟨g, 1, none⟩ = some (.string o.k.f0) ∧ w.cell? ⟨g, 2, none⟩ = some (.string o.k.f1) ∧ w.cell? ⟨g, 3, none⟩ = some (.string o.k.f2) ∧ w.cell? ⟨g, 4, none⟩ = some (.int .u64 o.k.f3) ∧ w.cell? ⟨g, 5, none⟩ = some (.string o.to_) ∧ w.cell? ⟨g, 6, none⟩ = some (.slice A1 o.value.length c1) ∧ w.cell? ⟨g, 7, none⟩ = some (.slice A2 o.want.length c2) ∧ w.cell? ⟨g, 8, none⟩ = some (.bool o.has) ∧ w.cell? ⟨g, 9, none⟩ = some (.slice A3 o.sub.length c3) ∧ g < w.heap.size :=
  ⟨(zAc h 0).trans rfl, (zAc h 1).trans rfl, (zAc h 2).trans rfl, (zAc h 3).trans rfl, (zAc h 4).trans rfl, (zAc h 5).trans rfl, (zAc h 6).trans rfl, (zAc h 7).trans rfl, (zAc h 8).trans rfl, (zAc h 9).trans rfl, zAj h⟩
end
end Go.Proofs.YtpckachmleonlaaGreatDoor
end
section
set_option linter.unusedVariables false
set_option linter.unusedSimpArgs false
namespace Go.Proofs.YtpckachmleonlaaGreatDoor
open Go.RowKit Go.Proofs.YtpckachmleonlaaGreatDoorW.PrintWords
theorem less_ltS (x y : ByteArray) : Op.bytesLess x.toList y.toList = ltS x y := Cp.less_cmpL x y
set_option maxHeartbeats 4000000 in
set_option maxRecDepth 100000 in
theorem new_ok (a b : ByteArray) (w : World) (h : rightT a b = true) : Calls Tryz.prog 30 #[.string a, .string b] w fun e w' => e = .returned (.tuple #[.pointer (some ⟨w.heap.size, 0, none⟩), .int .i64 0]) ∧ w' = w.alloc (.cells #[.string a, .string b, .pointer none] 103) := by
 unfold rightT at h
 simp only [Bool.and_eq_true, decide_eq_true_eq, Bool.or_eq_true] at h
 have h3 := h.1
 have d1 : decide ((32 : Int) < max (a.size : Int) (b.size : Int)) = false := Cp.df (by omega)
 rcases Bool.eq_false_or_eq_true b.toList.isEmpty with he | he
 ·clear h h3
  go_enter Tryz.func30, Tryz.ntmps30
  go_wp2_with fail
  go_ret2
  exact ⟨rfl, rfl⟩
 ·have hl : ltS a b = true := by
   rcases h.2 with h4 | h4
   ·have := Cp.size_pos he; omega
   ·exact h4
  rw [← less_ltS] at hl
  clear h h3
  go_enter Tryz.func30, Tryz.ntmps30
  go_wp2_with fail
  go_ret2
  exact ⟨rfl, rfl⟩
set_option maxHeartbeats 4000000 in
set_option maxRecDepth 100000 in
theorem new_bad (a b : ByteArray) (w : World) (h : rightT a b = false) : Calls Tryz.prog 30 #[.string a, .string b] w fun e w' => e = .returned (.tuple #[.pointer none, .int .i64 1]) ∧ w' = w := by
 rcases Nat.lt_or_ge 32 (max a.size b.size) with h3 | h3
 ·have d1 : decide ((32 : Int) < max (a.size : Int) (b.size : Int)) = true := Cp.dt (by omega)
  clear h h3
  go_enter Tryz.func30, Tryz.ntmps30
  go_wp2_with fail
  go_ret2
  exact ⟨rfl, rfl⟩
 ·have d1 : decide ((32 : Int) < max (a.size : Int) (b.size : Int)) = false := Cp.df (by omega)
  have h4 : a.size ≤ 32 ∧ b.size ≤ 32 := by omega
  unfold rightT at h
  rw [decide_eq_true h4.1, decide_eq_true h4.2] at h
  simp only [Bool.true_and, Bool.or_eq_false_iff, decide_eq_false_iff_not] at h
  have he : b.toList.isEmpty = false := by
   cases he : b.toList.isEmpty with
   | false => rfl
   | true => exact absurd (Cp.size_zero he) h.1
  have hl := h.2
  rw [← less_ltS] at hl
  clear h h3 h4
  go_enter Tryz.func30, Tryz.ntmps30
  go_wp2_with fail
  go_ret2
  exact ⟨rfl, rfl⟩
set_option maxHeartbeats 4000000 in
set_option maxRecDepth 100000 in
theorem inside_any (p : Nat) (a b r : ByteArray) (v : Value) (w : World) (h : w.heap[p]? = some (.cells #[.string a, .string b, v] 103 (0, 0))) : Calls Tryz.prog 76 #[.pointer (some ⟨p, 0, none⟩), .string r] w fun e w' => e = .returned (.bool (insT a b r)) ∧ w' = w := by
 have c0 := (zAc h 0).trans (rfl : _ = some (Value.string a))
 have c1 := (zAc h 1).trans (rfl : _ = some (Value.string b))
 have hl := zAj h
 have HI := zAa.mk (insT_eq a b r)
 rw [← less_ltS, ← less_ltS] at HI
 have HE : zAa (decide (b.size = 0) = b.toList.isEmpty) := ⟨by
  rcases Bool.eq_false_or_eq_true b.toList.isEmpty with he | he
  ·rw [he, Cp.size_zero he]; rfl
  ·rw [he]; have := Cp.size_pos he; exact decide_eq_false (by omega)⟩
 rcases Bool.eq_false_or_eq_true (Op.bytesLess r.toList a.toList) with h1 | h1
 ·clear h
  go_enter Tryz.func76, Tryz.ntmps76
  go_wp2_with fail
  go_ret
  exact ⟨by rw [HI.out, h1]; rfl, rfl⟩
 ·rcases Bool.eq_false_or_eq_true b.toList.isEmpty with he | he
  ·clear h
   go_enter Tryz.func76, Tryz.ntmps76
   go_wp2_with fail
   go_ret
   exact ⟨by rw [HI.out, h1, HE.out, he]; rfl, rfl⟩
  ·rcases Bool.eq_false_or_eq_true (Op.bytesLess r.toList b.toList) with h2 | h2
   ·clear h
    go_enter Tryz.func76, Tryz.ntmps76
    go_wp2_with fail
    go_ret
    exact ⟨by rw [HI.out, h1, HE.out, he, h2]; rfl, rfl⟩
   ·clear h
    go_enter Tryz.func76, Tryz.ntmps76
    go_wp2_with fail
    go_ret
    exact ⟨by rw [HI.out, h1, HE.out, he, h2]; rfl, rfl⟩
set_option maxHeartbeats 4000000 in
set_option maxRecDepth 100000 in
theorem of1_any (x : CellM) (V : Option Addr) (c : Nat) (W : World) : Calls Tryz.prog 73 #[cellV x V c] W fun e w' => e = .returned (.bool (!keyOkB x)) ∧ Below W.heap.size W w' := by
 have HR : zAa (∀ X : World, Calls Tryz.prog 74 #[.agg #[.string x.f0.f0, .string x.f0.f1, .string x.f0.f2, .int .u64 x.f0.f3]] X fun e w' => e = .returned (.int .i64 (Cp.rightI x.f0.f0 x.f0.f1 x.f0.f2)) ∧ Below X.heap.size X w') := ⟨fun X => Cp.right_any _ _ _ _ X⟩
 have HK : zAa ((Cp.rightI x.f0.f0 x.f0.f1 x.f0.f2 = 0 ∧ keyOkB x = true) ∨ (Cp.rightI x.f0.f0 x.f0.f1 x.f0.f2 = 5 ∧ keyOkB x = false)) := ⟨by
  unfold keyOkB
  cases h : Cp.okB x.f0.f0 x.f0.f1 x.f0.f2 with
  | true => exact .inl ⟨Cp.rightI_ok h, rfl⟩
  | false => exact .inr ⟨Cp.rightI_bad h, rfl⟩⟩
 unfold cellV
 obtain ⟨l4, hl4⟩ : ∃ l4, x.f1.length = l4 := ⟨_, rfl⟩
 rw [hl4]
 clear hl4
 generalize Cp.rightI x.f0.f0 x.f0.f1 x.f0.f2 = i at HR HK
 generalize keyOkB x = b at HK ⊢
 rcases HK.out with ⟨rfl, rfl⟩ | ⟨rfl, rfl⟩
 all_goals (
  clear HK
  go_enter Tryz.func73, Tryz.ntmps73
  go_wp2_with fail
  refine (HR.out _).mono ?_
  rintro e w2 ⟨rfl, hb⟩
  have HB : zAa (Below W.heap.size W w2) := ⟨(zAb (Below.refl _ _) _).trans (hb.mono (by simp))⟩
  clear hb
  go_wp2_with fail
  go_ret
  exact ⟨rfl, HB.out⟩)
set_option maxHeartbeats 4000000 in
set_option maxRecDepth 100000 in
theorem of2_any (p : Nat) (a b : ByteArray) (v : Value) (g : Nat) (x : CellM) (V : Option Addr) (c : Nat) (W : World) (h : W.heap[p]? = some (.cells #[.string a, .string b, v] 103 (0, 0))) (hg : W.heap[g]? = some (.cells #[.pointer (some ⟨p, 0, none⟩)] 23 (0, 0))) :
  Calls Tryz.prog 75 #[cellV x V c, .pointer (some ⟨g, 0, none⟩)] W fun e w' => e = .returned (.bool (!insT a b x.f0.f0)) ∧ Below W.heap.size W w' := by
 have HI : zAa (∀ X : World, Below W.heap.size W X → Calls Tryz.prog 76 #[.pointer (some ⟨p, 0, none⟩), .string x.f0.f0] X fun e w' => e = .returned (.bool (insT a b x.f0.f0)) ∧ w' = X) := ⟨fun X hX => inside_any p a b _ v X (zAf h hX)⟩
 have c0 := (zAc hg 0).trans (rfl : _ = some (Value.pointer (some ⟨p, 0, none⟩)))
 have hl := zAj hg
 unfold cellV
 obtain ⟨l4, hl4⟩ : ∃ l4, x.f1.length = l4 := ⟨_, rfl⟩
 rw [hl4]
 generalize insT a b x.f0.f0 = i at HI ⊢
 clear hl4 h hg
 go_enter Tryz.func75, Tryz.ntmps75
 go_wp2_with fail
 refine (HI.out _ (zAb (Below.refl _ _) _)).mono ?_
 rintro e w2 ⟨rfl, rfl⟩
 go_wp2_with fail
 go_ret
 exact ⟨rfl, zAb (Below.refl _ _) _⟩
set_option maxHeartbeats 4000000 in
set_option maxRecDepth 100000 in
theorem of3_any (x : CellM) (V : Option Addr) (c : Nat) (W : World) : Calls Tryz.prog 77 #[cellV x V c] W fun e w' => e = .returned (.bool (!valOkB x)) ∧ Below W.heap.size W w' := by
 obtain ⟨k, f, g⟩ := x
 have HV : zAa (valOkB ⟨k, f, g⟩ = (decide (f.length ≤ 256) && !(g && decide (0 < f.length)))) := ⟨rfl⟩
 unfold cellV
 simp only
 generalize valOkB ⟨k, f, g⟩ = b at HV ⊢
 obtain ⟨n, hn⟩ : ∃ n, f.length = n := ⟨_, rfl⟩
 rw [hn] at HV ⊢
 clear hn
 rcases Nat.lt_or_ge 256 n with h1 | h1
 ·have HB : zAa (b = false) := ⟨by rw [HV.out, decide_eq_false (by omega)]; rfl⟩
  have d1 : decide ((256 : Int) < (n : Int)) = true := Cp.dt (by omega)
  have d2 : decide (256 < n) = true := Cp.dt (by omega)
  clear h1
  go_enter Tryz.func77, Tryz.ntmps77
  go_wp2_with fail
  go_ret
  exact ⟨by rw [HB.out]; rfl, zAb (Below.refl _ _) _⟩
 ·have d1 : decide ((256 : Int) < (n : Int)) = false := Cp.df (by omega)
  have d2 : decide (256 < n) = false := Cp.df (by omega)
  have HV2 : zAa (b = !(g && decide (0 < n))) := ⟨by rw [HV.out, decide_eq_true h1]; rfl⟩
  clear h1
  cases g
  ·go_enter Tryz.func77, Tryz.ntmps77
   go_wp2_with fail
   go_ret
   exact ⟨by rw [HV2.out]; rfl, zAb (Below.refl _ _) _⟩
  ·rcases Nat.eq_zero_or_pos n with h2 | h2
   ·subst h2
    go_enter Tryz.func77, Tryz.ntmps77
    go_wp2_with fail
    go_ret
    exact ⟨by rw [HV2.out]; rfl, zAb (Below.refl _ _) _⟩
   ·have HB : zAa (b = false) := ⟨by rw [HV2.out, decide_eq_true h2]; rfl⟩
    have d3 : decide ((0 : Int) < (n : Int)) = true := Cp.dt (by omega)
    have d4 : decide (0 < n) = true := Cp.dt (by omega)
    go_enter Tryz.func77, Tryz.ntmps77
    go_wp2_with fail
    go_ret
    exact ⟨by rw [HB.out]; rfl, zAb (Below.refl _ _) _⟩
end Go.Proofs.YtpckachmleonlaaGreatDoor
end
