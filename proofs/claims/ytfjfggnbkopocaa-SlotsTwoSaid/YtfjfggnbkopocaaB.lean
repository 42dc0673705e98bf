/- Slots: a map from numbers to blocks, by its entries in the order of their births. -/
import Derived.Test.YtfjfggnbkopocaaProg
import Derived.Maps.Range
import Derived.Maps.RangeRun
import Derived.Maps.Keyed
import Derived.WalkKit
import Derived.WalkSpells
import Derived.WalkLawsBesides
import Derived.WalkMore
import Derived.Lib.Hide
import Derived.Deep.QuietTactic
import Derived.BigQuiet
import Derived.Deep.LoopGhost
import Derived.Deep.DeepCutAuto
import Derived.StillTailTactics
import Derived.IntWalk
import Derived.Lib.BytesEntry
import Derived.Test.YtfjfggnbkopocaaWWords
/- Maps. -/
set_option linter.unusedVariables false
set_option linter.unusedSimpArgs false
namespace Go.Proofs.Ytfjfggnbkopocaa
open Go.RowKit Go.MapKept Go.Maps
open Go.ChangeMaps (setBlock heap_setBlock_same heap_setBlock_other modify_eq_set)

def ptr (b : Nat) : Value := .pointer (some ⟨b, 0, none⟩)
def key (q : Int) : Value := .int .u64 q
def okQ (q : Int) : Prop := (Lit.int .u64 q).wf = true
theorem ptr_inj {a b : Nat} (h : ptr a = ptr b) : a = b := by
  unfold ptr at h
  injection h with h
  injection h with h
  injection h
theorem key_inj {a b : Int} (h : key a = key b) : a = b := by
  unfold key at h
  injection h
/-- The entries are these keys and blocks. -/
def Ents (es : List MapEntry) (l : List (Int × Nat)) : Prop := es.map (fun e => (e.key, e.val)) = l.map (fun p => (key p.1, ptr p.2))
/-- Block m is a map of these keys and blocks. -/
def MapAt (w : World) (m : Nat) (l : List (Int × Nat)) : Prop :=
  ∃ es clock, w.heap[m]? = some (.map es clock) ∧ Stamped es clock ∧ Ents es.toList l ∧ ∀ p ∈ l, okQ p.1
def getP (l : List (Int × Nat)) (q : Int) : Option Nat := (l.find? (fun p => p.1 == q)).map (·.2)
def ptrO : Option Nat → Value
  | none => .pointer none
  | some b => ptr b

theorem Ents.length {es : List MapEntry} {l : List (Int × Nat)} (h : Ents es l) : es.length = l.length := by
  have := congrArg List.length h
  simpa using this
theorem Ents.get {es : List MapEntry} {l : List (Int × Nat)} (h : Ents es l) {j : Nat} {e : MapEntry} (he : es[j]? = some e) : ∃ p, l[j]? = some p ∧ e.key = key p.1 ∧ e.val = ptr p.2 := by
  have h1 := congrArg (fun x => x[j]?) h
  simp only [List.getElem?_map, he, Option.map_some] at h1
  cases hp : l[j]? with
  | none => rw [hp] at h1; cases h1
  | some p =>
    rw [hp] at h1
    simp only [Option.map_some, Option.some.injEq, Prod.mk.injEq] at h1
    exact ⟨p, rfl, h1.1, h1.2⟩
theorem Ents.mem {es : List MapEntry} {l : List (Int × Nat)} (h : Ents es l) {e : MapEntry} (he : e ∈ es) : ∃ p, p ∈ l ∧ e.key = key p.1 ∧ e.val = ptr p.2 := by
  obtain ⟨j, hj⟩ := List.getElem?_of_mem he
  obtain ⟨p, hp, h1⟩ := h.get hj
  exact ⟨p, List.mem_of_getElem? hp, h1⟩
theorem Ents.of {es : List MapEntry} {l : List (Int × Nat)} (h : Ents es l) {p : Int × Nat} (hp : p ∈ l) : ∃ e, e ∈ es ∧ e.key = key p.1 ∧ e.val = ptr p.2 := by
  have h1 : (key p.1, ptr p.2) ∈ l.map (fun p => (key p.1, ptr p.2)) := List.mem_map.2 ⟨p, hp, rfl⟩
  unfold Ents at h
  rw [← h] at h1
  obtain ⟨e, he, h2⟩ := List.mem_map.1 h1
  simp only [Prod.mk.injEq] at h2
  exact ⟨e, he, h2.1, h2.2⟩
theorem Ents.nodup {es : Array MapEntry} {clock : Nat} {l : List (Int × Nat)} (h : Ents es.toList l) (hs : Stamped es clock) : (l.map (·.1)).Nodup := by
  have h1 := hs.2.2
  have h2 : es.toList.map (·.key) = l.map (fun p => key p.1) := by
    have := congrArg (List.map Prod.fst) h
    simpa [List.map_map, Function.comp_def] using this
  rw [h2] at h1
  have h3 : l.map (fun p => key p.1) = (l.map (·.1)).map key := by simp [List.map_map, Function.comp_def]
  rw [h3] at h1
  exact List.Pairwise.of_map key (fun a b h e => h (congrArg key e)) h1
theorem MapAt.lt {w : World} {m : Nat} {l : List (Int × Nat)} (h : MapAt w m l) : m < w.heap.size := by
  obtain ⟨es, clock, hb, _⟩ := h
  exact (Array.getElem?_eq_some_iff.1 hb).1
theorem MapAt.nodup {w : World} {m : Nat} {l : List (Int × Nat)} (h : MapAt w m l) : (l.map (·.1)).Nodup := by
  obtain ⟨es, clock, hb, hs, he, _⟩ := h
  exact he.nodup hs
theorem MapAt.move {w w1 : World} {m : Nat} {l : List (Int × Nat)} (h : MapAt w m l) (hm : w1.heap[m]? = w.heap[m]?) : MapAt w1 m l := by
  obtain ⟨es, clock, hb, hs, he, hq⟩ := h
  exact ⟨es, clock, hm.trans hb, hs, he, hq⟩
theorem MapAt.made (w : World) : MapAt (w.alloc (.map #[] 0)) w.heap.size [] :=
  ⟨#[], 0, (MapKept.heap_alloc w _).1, stamped_empty 0, rfl, by simp⟩

theorem getP_none {l : List (Int × Nat)} {q : Int} (h : ∀ p ∈ l, p.1 ≠ q) : getP l q = none := by
  unfold getP
  rw [List.find?_eq_none.2 (fun p hp => by simpa using h p hp)]
  rfl
theorem getP_not {l : List (Int × Nat)} {q : Int} (h : getP l q = none) : ∀ p ∈ l, p.1 ≠ q := by
  unfold getP at h
  rw [Option.map_eq_none_iff, List.find?_eq_none] at h
  intro p hp e
  exact h p hp (by simpa using e)
theorem getP_some {l : List (Int × Nat)} (hn : (l.map (·.1)).Nodup) {p : Int × Nat} (hp : p ∈ l) : getP l p.1 = some p.2 := by
  induction l with
  | nil => cases hp
  | cons a r ih =>
    rw [List.map_cons, List.nodup_cons] at hn
    unfold getP
    rw [List.find?_cons]
    rcases List.mem_cons.1 hp with rfl | hp
    · simp
    · have hne : a.1 ≠ p.1 := fun e => hn.1 (e ▸ List.mem_map.2 ⟨p, hp, rfl⟩)
      have h0 : (a.1 == p.1) = false := by simpa using hne
      rw [h0]
      exact ih hn.2 hp
theorem getP_mem {l : List (Int × Nat)} {q : Int} {b : Nat} (h : getP l q = some b) : (q, b) ∈ l := by
  unfold getP at h
  rw [Option.map_eq_some_iff] at h
  obtain ⟨p, hp, rfl⟩ := h
  have h1 := List.mem_of_find?_eq_some hp
  have h2 := List.find?_some hp
  have h3 : p.1 = q := by simpa using h2
  rw [← h3]
  exact h1

section
variable {P : Program} {k t e : TypeId} (hk : P.underlying k = some (.int .u64)) (ht : P.underlying t = some (.map k e))
variable {w : World} {m : Nat} {l : List (Int × Nat)} {q : Int}
include hk

theorem key_reads {q : Int} (hq : okQ q) : keyOf P k (key q) = some (.int .u64 q) := keyOf_int_mk hk hq
theorem ents_reads {es : List MapEntry} (he : Ents es l) (hq : ∀ p ∈ l, okQ p.1) : ∀ x ∈ es, ∃ y, keyOf P k x.key = some y := by
  intro x hx
  obtain ⟨p, hp, h1, _⟩ := he.mem hx
  exact ⟨_, by rw [h1]; exact key_reads hk (hq p hp)⟩
include ht
/-- 'm[q]'. -/
theorem MapAt.lookup (h : MapAt w m l) (hz : (zeroValue e).run P w = .ok (.pointer none) w) (hq : okQ q) :
    (Instr.lookup t (.map (some m)) (key q) false).run P w = .ok (ptrO (getP l q)) w := by
  obtain ⟨es, clock, hb, hs, he, hl⟩ := h
  have K : Keyed P k := int_keyed hk
  rcases K.find w (key_reads hk hq) es.toList (ents_reads hk he hl) with ⟨h1, h2⟩ | ⟨j, e0, h1, h2, h3⟩
  · have h4 : getP l q = none := getP_none (fun p hp h5 => by
      obtain ⟨x, hx, h6, _⟩ := he.of hp
      exact h2 x hx (by rw [h6, h5]))
    rw [h4]
    simp [Instr.lookup, run_underlying ht, MapKept.run_getObj_map hb, K.check w _ (key_reads hk hq), h1, hz, Result.andThen, ptrO]
  · obtain ⟨p, hp, h5, h6⟩ := he.get h2
    have h7 : p.1 = q := key_inj (h5.symm.trans h3)
    have h4 : getP l q = some p.2 := by
      rw [← h7]
      exact getP_some (he.nodup hs) (List.mem_of_getElem? hp)
    rw [h4]
    simp [Instr.lookup, run_underlying ht, MapKept.run_getObj_map hb, K.check w _ (key_reads hk hq), h1, Result.andThen, ptrO, h6]

/-- 'm[q] = s', q not there. -/
theorem MapAt.insert (h : MapAt w m l) (hq : okQ q) (hn : getP l q = none) (s : Nat) :
    ∃ w', (Instr.mapUpdate t (.map (some m)) (key q) (ptr s)).run P w = .ok () w' ∧ MapAt w' m (l ++ [(q, s)]) ∧ w.grownBy w' (some m) ∧ w'.heap.size = w.heap.size := by
  obtain ⟨es, clock, hb, hs, he, hl⟩ := h
  have K : Keyed P k := int_keyed hk
  rcases K.find w (key_reads hk hq) es.toList (ents_reads hk he hl) with ⟨h1, h2⟩ | ⟨j, e0, h1, h2, h3⟩
  · refine ⟨setBlock w m (.map (es.push ⟨key q, ptr s, clock⟩) (clock + 1)), ?_, ⟨_, _, heap_setBlock_same hb _, stamped_push hs h2, ?_, ?_⟩, ⟨rfl, rfl, rfl, by simp [setBlock], fun i _ hi => heap_setBlock_other hb _ (fun e => hi (by rw [e]))⟩, by simp [setBlock]⟩
    · simp [Instr.mapUpdate, run_underlying ht, MapKept.run_getObj_map hb, K.check w false (key_reads hk hq), h1, MapKept.run_setObj_map _ hb, Result.andThen, setBlock]
    · unfold Ents at he ⊢
      rw [Array.toList_push, List.map_append, List.map_append, he]
      rfl
    · intro p hp
      rcases List.mem_append.1 hp with hp | hp
      · exact hl p hp
      · rw [List.mem_singleton.1 hp]
        exact hq
  · exfalso
    obtain ⟨p, hp, h5, h6⟩ := he.get h2
    exact getP_not hn p (List.mem_of_getElem? hp) (key_inj (h5.symm.trans h3))
end
def putAt (l : List (Int × Nat)) (q : Int) (s : Nat) : List (Int × Nat) := l.map (fun p => if p.1 = q then (q, s) else p)
theorem putAt_fst (l : List (Int × Nat)) (q : Int) (s : Nat) : (putAt l q s).map (·.1) = l.map (·.1) := by
  unfold putAt
  rw [List.map_map]
  refine List.map_congr_left (fun p _ => ?_)
  by_cases h : p.1 = q
  · simp [h]
  · simp [h]
theorem Ents.put {es : Array MapEntry} {clock : Nat} {l : List (Int × Nat)} {q : Int} (h : Ents es.toList l) (hs : Stamped es clock) {j : Nat} {e0 : MapEntry} (h2 : es.toList[j]? = some e0) (h3 : e0.key = key q) (s : Nat) :
    Ents (es.modify j (fun e' => { e' with key := key q, val := ptr s })).toList (putAt l q s) := by
  rw [Array.toList_modify, modify_eq_set _ _ _ _ h2]
  obtain ⟨p, hp, h5, h6⟩ := h.get h2
  have h7 : p.1 = q := key_inj (h5.symm.trans h3)
  have hn := h.nodup hs
  unfold Ents
  apply List.ext_getElem?
  intro i
  have h0 := congrArg (fun x => x[i]?) h
  simp only [List.getElem?_map] at h0
  rw [List.getElem?_map, List.getElem?_map, List.getElem?_set]
  unfold putAt
  rw [List.getElem?_map]
  by_cases hij : j = i
  · subst hij
    have hlt : j < es.toList.length := (List.getElem?_eq_some_iff.1 h2).1
    rw [if_pos rfl, if_pos hlt, hp]
    simp [h7]
  · rw [if_neg hij, h0]
    cases hli : l[i]? with
    | none => rfl
    | some p' =>
      have hne : p'.1 ≠ q := by
        intro e
        apply hij
        have h8 : (l.map (·.1))[i]? = some q := by rw [List.getElem?_map, hli]; simp [e]
        have h9 : (l.map (·.1))[j]? = some q := by rw [List.getElem?_map, hp]; simp [h7]
        have hli' : i < (l.map (·.1)).length := (List.getElem?_eq_some_iff.1 h8).1
        exact ((List.getElem?_inj hli' hn).1 (h8.trans h9.symm)).symm
      simp [hne]
def dropAt (l : List (Int × Nat)) (q : Int) : List (Int × Nat) := l.filter (fun p => p.1 != q)
theorem filter_erase {α : Type} (f : α → Bool) : ∀ (l : List α) (j : Nat) (x : α), l[j]? = some x → f x = false → (∀ i y, l[i]? = some y → i ≠ j → f y = true) → l.filter f = l.eraseIdx j
  | [], _, _, h, _, _ => by simp at h
  | a :: r, 0, x, h, hx, hr => by
    have h0 : a = x := by simpa using h
    subst h0
    rw [List.filter_cons, hx]
    simp only [Bool.false_eq_true, if_false, List.eraseIdx_cons_zero]
    refine List.filter_eq_self.2 (fun y hy => ?_)
    obtain ⟨i, hi⟩ := List.getElem?_of_mem hy
    exact hr (i + 1) y (by simpa using hi) (by omega)
  | a :: r, j + 1, x, h, hx, hr => by
    rw [List.filter_cons, hr 0 a (by simp) (by omega), List.eraseIdx_cons_succ]
    simp only [if_true]
    rw [filter_erase f r j x (by simpa using h) hx (fun i y hi hne => hr (i + 1) y (by simpa using hi) (by omega))]
theorem Ents.drop {es : Array MapEntry} {clock : Nat} {l : List (Int × Nat)} {q : Int} (h : Ents es.toList l) (hs : Stamped es clock) {j : Nat} {e0 : MapEntry} (h2 : es.toList[j]? = some e0) (h3 : e0.key = key q) :
    Ents (es.toList.eraseIdx j) (dropAt l q) := by
  obtain ⟨p, hp, h5, h6⟩ := h.get h2
  have h7 : p.1 = q := key_inj (h5.symm.trans h3)
  have hn := h.nodup hs
  have h1 : dropAt l q = l.eraseIdx j := filter_erase _ l j p hp (by simp [h7]) (fun i y hi hne => by
    have : y.1 ≠ q := by
      intro e
      apply hne
      have h8 : (l.map (·.1))[i]? = some q := by rw [List.getElem?_map, hi]; simp [e]
      have h9 : (l.map (·.1))[j]? = some q := by rw [List.getElem?_map, hp]; simp [h7]
      have hli' : i < (l.map (·.1)).length := (List.getElem?_eq_some_iff.1 h8).1
      exact (List.getElem?_inj hli' hn).1 (h8.trans h9.symm)
    simpa using this)
  unfold Ents at h ⊢
  rw [h1, Go.ChangeMaps.map_eraseIdx, Go.ChangeMaps.map_eraseIdx, h]

/-- A range over the map is under way in block r: left: which keys are still to come. -/
def RangeAt (w : World) (m r : Nat) (l : List (Int × Nat)) (left : Int → Bool) : Prop :=
  ∃ es clock since seen c0, w.heap[m]? = some (.map es clock) ∧ Stamped es clock ∧ Ents es.toList l ∧ (∀ p ∈ l, okQ p.1) ∧
    w.heap[r]? = some (.mapIter (some m) since seen c0) ∧ (∀ x ∈ es.toList, x.born < since) ∧ since ≤ c0 ∧ since ≤ clock ∧ ∀ x ∈ es.toList, ∀ q, x.key = key q → left q = !seen.contains x.born
theorem RangeAt.map {w : World} {m r : Nat} {l : List (Int × Nat)} {left : Int → Bool} (h : RangeAt w m r l left) : MapAt w m l := by
  obtain ⟨es, clock, since, seen, c0, hb, hs, he, hq, _⟩ := h
  exact ⟨es, clock, hb, hs, he, hq⟩
theorem RangeAt.ne {w : World} {m r : Nat} {l : List (Int × Nat)} {left : Int → Bool} (h : RangeAt w m r l left) : r ≠ m := by
  obtain ⟨es, clock, since, seen, c0, hb, hs, he, hq, hr, _⟩ := h
  intro e
  rw [e, hb] at hr
  cases hr
theorem RangeAt.lt {w : World} {m r : Nat} {l : List (Int × Nat)} {left : Int → Bool} (h : RangeAt w m r l left) : r < w.heap.size := by
  obtain ⟨es, clock, since, seen, c0, hb, hs, he, hq, hr, _⟩ := h
  exact (Array.getElem?_eq_some_iff.1 hr).1
theorem RangeAt.move {w w1 : World} {m r : Nat} {l : List (Int × Nat)} {left : Int → Bool} (h : RangeAt w m r l left) (hm : w1.heap[m]? = w.heap[m]?) (hr' : w1.heap[r]? = w.heap[r]?) : RangeAt w1 m r l left := by
  obtain ⟨es, clock, since, seen, c0, hb, hs, he, hq, hr, h1⟩ := h
  exact ⟨es, clock, since, seen, c0, hm.trans hb, hs, he, hq, hr'.trans hr, h1⟩
def leftN (l : List (Int × Nat)) (left : Int → Bool) : Nat := (l.filter (fun p => left p.1)).length
section
variable {P : Program} {k t e : TypeId} (hk : P.underlying k = some (.int .u64)) (ht : P.underlying t = some (.map k e))
variable {w : World} {m r : Nat} {l : List (Int × Nat)} {q : Int} {left : Int → Bool}
include hk ht
omit hk in
/-- 'range m'. -/
theorem MapAt.range (h : MapAt w m l) : ∃ w', (Instr.range t (.map (some m))).run P w = .ok (ptr w.heap.size) w' ∧ RangeAt w' m w.heap.size l (fun _ => true) ∧ w.grownBy w' none ∧ w'.heap.size = w.heap.size + 1 := by
  have hlt := h.lt
  obtain ⟨es, clock, hb, hs, he, hq⟩ := h
  refine ⟨_, run_range_map w t k e m es clock ht hb, ⟨es, clock, clock, #[], clock, ((MapKept.heap_alloc w _).2 m hlt).trans hb, hs, he, hq, (MapKept.heap_alloc w _).1, hs.1, Nat.le_refl _, Nat.le_refl _, ?_⟩, World.grownBy_alloc w _ none, by simp⟩
  intro x hx q _
  simp
omit hk ht in
/-- The step. -/
theorem RangeAt.next (h : RangeAt w m r l left) (ty : TypeId) :
    ((∀ p ∈ l, left p.1 = false) ∧ (Instr.next (ptr r) false ty).run P w = .ok (.tuple #[.bool false]) w) ∨
    ∃ p w', p ∈ l ∧ left p.1 = true ∧ (Instr.next (ptr r) false ty).run P w = .ok (.tuple #[.bool true, key p.1, ptr p.2]) w' ∧ RangeAt w' m r l (fun x => left x && x != p.1) ∧
      w.grownBy w' (some r) ∧ w'.heap.size = w.heap.size ∧ (Instr.entry (ptr r)).run P w' = .ok (.tuple #[key p.1, ptr p.2]) w' := by
  have hne := h.ne
  obtain ⟨es, clock, since, seen, c0, hb, hs, he, hq, hr, hold, hsc, hsk, hl⟩ := h
  rcases run_next_at (P := P) w ty r m since c0 seen es clock hr hb hold hsc with ⟨h0, hrun⟩ | ⟨e0, he0, w1, hal, hrun⟩
  · refine Or.inl ⟨fun p hp => ?_, hrun⟩
    obtain ⟨x, hx, h1, _⟩ := he.of hp
    rw [hl x hx _ h1, all_seen es seen h0 x hx]
    rfl
  · obtain ⟨hem, hes⟩ := mem_left he0
    obtain ⟨p, hp, h1, h2⟩ := he.mem hem
    have hr1 : w1.heap[r]? = some (.mapIter (some m) since seen c0) := by rcases hal with rfl | rfl <;> exact hr
    have hb1 : w1.heap[m]? = some (.map es clock) := by rcases hal with rfl | rfl <;> exact hb
    have hset := heap_set (o' := .mapIter (some m) since (seen.push e0.born) clock) hr1
    have hb' : (setBlock w1 r (.mapIter (some m) since (seen.push e0.born) clock)).heap[m]? = some (.map es clock) := (hset.2 m (fun e1 => hne e1.symm)).trans hb1
    refine Or.inr ⟨p, _, hp, by rw [hl e0 hem _ h1, hes]; rfl, by rw [h1, h2] at hrun; exact hrun, ⟨es, clock, since, seen.push e0.born, clock, hb', hs, he, hq, hset.1, hold, hsk, hsk, fun x hx q' hq' => ?_⟩, ?_, ?_, ?_⟩
    · show (left q' && q' != p.1) = _
      rw [hl x hx q' hq', contains_push]
      have : (q' != p.1) = !(x.born == e0.born) := by
        by_cases hbb : x.born = e0.born
        · obtain rfl := born_inj hs.2.1 hx hem hbb
          have h3 : q' = p.1 := key_inj (hq'.symm.trans h1)
          simp [h3]
        · have h3 : q' ≠ p.1 := fun e1 => by
            have hk2 : x.key = e0.key := by rw [hq', h1, e1]
            exact hbb (congrArg MapEntry.born (entry_eq_of_key ((stamped_iff es clock).1 hs).2.2 hx hem hk2))
          rw [bne_iff_ne.2 h3, beq_eq_false_iff_ne.2 hbb]
          rfl
      rw [this]
      cases seen.contains x.born <;> cases (x.born == e0.born) <;> rfl
    · rcases hal with rfl | rfl <;> exact ⟨rfl, rfl, rfl, by simp [setBlock], fun i _ hi => hset.2 i (fun e1 => hi (by rw [e1]))⟩
    · rcases hal with rfl | rfl <;> simp [setBlock]
    · have h3 := run_entry_at (P := P) _ r m since seen es clock e0 hset.1 hb' hem hs.2.1
      rw [h1, h2] at h3
      exact h3
/-- 'm[q] = s' in the round, q there. -/
theorem RangeAt.put (h : RangeAt w m r l left) {b : Nat} (hn : (q, b) ∈ l) (s : Nat) :
    ∃ w', (Instr.mapUpdate t (.map (some m)) (key q) (ptr s)).run P w = .ok () w' ∧ RangeAt w' m r (putAt l q s) left ∧ w.grownBy w' (some m) ∧ w'.heap.size = w.heap.size := by
  have hne := h.ne
  obtain ⟨es, clock, since, seen, c0, hb, hs, he, hl, hr, hold, hsc, hsk, hle⟩ := h
  have hq : okQ q := hl _ hn
  have K : Keyed P k := int_keyed hk
  rcases K.find w (key_reads hk hq) es.toList (ents_reads hk he hl) with ⟨h1, h2⟩ | ⟨j, e0, h1, h2, h3⟩
  · exfalso
    obtain ⟨x, hx, h4, _⟩ := he.of hn
    exact h2 x hx h4
  · have hj : es[j]? = some e0 := by simpa using h2
    have hkeyf : ∀ e', es[j]? = some e' → ({ e' with key := key q, val := ptr s } : MapEntry).key = e'.key := fun e' he' => by rw [hj] at he'; cases he'; exact h3.symm
    have hmem : ∀ x ∈ (es.modify j (fun e' => { e' with key := key q, val := ptr s })).toList, ∃ y ∈ es.toList, y.born = x.born ∧ y.key = x.key := by
      intro x hx
      rw [Array.toList_modify, modify_eq_set _ _ _ _ h2] at hx
      obtain ⟨i, hi, ex⟩ := List.getElem_of_mem hx
      rw [List.getElem_set] at ex
      split at ex
      · exact ⟨e0, List.mem_of_getElem? h2, by rw [← ex], by rw [← ex]; exact h3⟩
      · exact ⟨x, ex ▸ List.getElem_mem (by simpa using hi), rfl, rfl⟩
    refine ⟨setBlock w m (.map (es.modify j (fun e' => { e' with key := key q, val := ptr s })) clock), ?_, ⟨_, _, since, seen, c0, heap_setBlock_same hb _, stamped_modify hs _ _ (fun _ _ => rfl) (fun e' _ he' => hkeyf e' he'), he.put hs h2 h3 s, ?_, (heap_setBlock_other hb _ hne).trans hr, ?_, hsc, hsk, ?_⟩, ⟨rfl, rfl, rfl, by simp [setBlock], fun i _ hi => heap_setBlock_other hb _ (fun e => hi (by rw [e]))⟩, by simp [setBlock]⟩
    · simp [Instr.mapUpdate, run_underlying ht, MapKept.run_getObj_map hb, K.check w false (key_reads hk hq), h1, hj, h3, K.stays w (key_reads hk hq), MapKept.run_setObj_map _ hb, Result.andThen, setBlock]
    · intro p hp
      have h5 : p.1 ∈ (putAt l q s).map (·.1) := List.mem_map.2 ⟨p, hp, rfl⟩
      rw [putAt_fst] at h5
      obtain ⟨p', hp', h6⟩ := List.mem_map.1 h5
      rw [← h6]
      exact hl p' hp'
    · intro x hx
      obtain ⟨y, hy, h5, _⟩ := hmem x hx
      rw [← h5]
      exact hold y hy
    · intro x hx q' hq'
      obtain ⟨y, hy, h5, h6⟩ := hmem x hx
      rw [← h5]
      exact hle y hy q' (h6.trans hq')
/-- 'delete(m, q)' in the round, q there. -/
theorem RangeAt.drop (h : RangeAt w m r l left) {b : Nat} (hn : (q, b) ∈ l) (ty : TypeId) :
    ∃ w', (Builtin.delete_ #[t, k] ty #[.map (some m), key q]).run P w = .ok (.tuple #[]) w' ∧ RangeAt w' m r (dropAt l q) left ∧ w.grownBy w' (some m) ∧ w'.heap.size = w.heap.size := by
  have hne := h.ne
  obtain ⟨es, clock, since, seen, c0, hb, hs, he, hl, hr, hold, hsc, hsk, hle⟩ := h
  have hq : okQ q := hl _ hn
  have K : Keyed P k := int_keyed hk
  rcases K.find w (key_reads hk hq) es.toList (ents_reads hk he hl) with ⟨h1, h2⟩ | ⟨j, e0, h1, h2, h3⟩
  · exfalso
    obtain ⟨x, hx, h4, _⟩ := he.of hn
    exact h2 x hx h4
  · have hjl : j < es.toList.length := (List.getElem?_eq_some_iff.1 h2).1
    have hjs : j < es.size := by simpa using hjl
    have hsub : (es.eraseIdxIfInBounds j).toList = es.toList.eraseIdx j := by
      unfold Array.eraseIdxIfInBounds
      rw [dif_pos hjs]
      simp
    have hmem : ∀ x ∈ (es.eraseIdxIfInBounds j).toList, x ∈ es.toList := fun x hx => by
      rw [hsub] at hx
      exact (List.eraseIdx_sublist _ _).subset hx
    refine ⟨setBlock w m (.map (es.eraseIdxIfInBounds j) clock), ?_, ⟨_, _, since, seen, c0, heap_setBlock_same hb _, stamped_erase hs j, by rw [hsub]; exact he.drop hs h2 h3, fun p hp => hl p (List.mem_filter.1 hp).1, (heap_setBlock_other hb _ hne).trans hr, fun x hx => hold x (hmem x hx), hsc, hsk, fun x hx => hle x (hmem x hx)⟩, ⟨rfl, rfl, rfl, by simp [setBlock], fun i _ hi => heap_setBlock_other hb _ (fun e => hi (by rw [e]))⟩, by simp [setBlock]⟩
    simp [Builtin.delete_, run_underlying ht, MapKept.run_getObj_map hb, K.check w _ (key_reads hk hq), h1, MapKept.run_setObj_map _ hb, Result.andThen, setBlock]
end
end Go.Proofs.Ytfjfggnbkopocaa

/- Slots: a log in memory. -/
/- Logs. -/
set_option linter.unusedVariables false
set_option linter.unusedSimpArgs false
namespace Go.Proofs.Ytfjfggnbkopocaa
open Go.RowKit Go.Proofs.YtfjfggnbkopocaaW.PrintWords

def kB : Kd Int := Kd.int .u8
/-- A signed text. -/
structure Sig where
  from_ : Int
  b : List Int
  tag : List Int
def kS : Kd Sig := Kd.iso (Kd.pair (Kd.int .u64) (Kd.pair (Kd.slice 5 (Kd.int .u8)) (Kd.slice 5 (Kd.int .u8)))) (fun x : Sig => (x.from_, x.b, x.tag))
def tr : Nat → Prop := fun _ => True
theorem kS_openM {w : World} {base : Nat} {ok : Nat → Prop} {x : Sig} {cs : List Value} (h : kS.M w base ok x cs) : ∃ v1 v2, cs = [.int .u64 x.from_, v1, v2] ∧ kB.R 5 w base ok v1 x.b ∧ kB.R 5 w base ok v2 x.tag := by
  obtain ⟨_, _, rfl, rfl, ⟨_, _, rfl, ⟨v1, rfl, g1⟩, ⟨v2, rfl, g2⟩⟩⟩ := h
  exact ⟨v1, v2, rfl, g1, g2⟩
theorem kS_mkM {w : World} {base : Nat} {ok : Nat → Prop} {x : Sig} {v1 v2 : Value} (g1 : kB.R 5 w base ok v1 x.b) (g2 : kB.R 5 w base ok v2 x.tag) : kS.M w base ok x [.int .u64 x.from_, v1, v2] :=
  ⟨[.int .u64 x.from_], [v1, v2], rfl, rfl, ⟨[v1], [v2], rfl, ⟨v1, rfl, g1⟩, ⟨v2, rfl, g2⟩⟩⟩

/-- But for the blocks of F all stays. -/
structure Fr (F : List Nat) (w w' : World) : Prop where
  os : w'.os = w.os
  tape : w'.tape = w.tape
  output : w'.output = w.output
  size : w.heap.size ≤ w'.heap.size
  block : ∀ k, k < w.heap.size → k ∉ F → w'.heap[k]? = w.heap[k]?
theorem Fr.refl (F : List Nat) (w : World) : Fr F w w := ⟨rfl, rfl, rfl, Nat.le_refl _, fun _ _ _ => rfl⟩
theorem Fr.of_below {F : List Nat} {w w' : World} (h : Below w.heap.size w w') : Fr F w w' := ⟨h.os, h.tape, h.output, h.size, fun k hk _ => h.block k hk⟩
theorem Fr.below {F : List Nat} {w w' : World} {B : Nat} (h : Fr F w w') (hB : B ≤ w.heap.size) (hF : ∀ b ∈ F, B ≤ b) : Below B w w' := ⟨h.os, h.tape, h.output, h.size, fun k hk => h.block k (by omega) (fun hin => by have := hF k hin; omega)⟩
theorem Fr.to_below {w w' : World} (h : Fr [] w w') : Below w.heap.size w w' := h.below (Nat.le_refl _) (by simp)
theorem Fr.mono {F G : List Nat} {w w' : World} (h : Fr F w w') (hs : ∀ b ∈ F, b ∈ G) : Fr G w w' := ⟨h.os, h.tape, h.output, h.size, fun k hk hn => h.block k hk (fun hf => hn (hs k hf))⟩
theorem Fr.trans {F G : List Nat} {a b c : World} (h : Fr F a b) (k : Fr G b c) (hG : ∀ x ∈ G, x ∈ F ∨ a.heap.size ≤ x) : Fr F a c :=
  ⟨k.os.trans h.os, k.tape.trans h.tape, k.output.trans h.output, Nat.le_trans h.size k.size, fun x hx hn => (k.block x (Nat.lt_of_lt_of_le hx h.size) (fun hg => by
    rcases hG x hg with h1 | h1
    · exact hn h1
    · omega)).trans (h.block x hx hn)⟩
theorem Fr.of_grown {w w' : World} {b : Nat} (h : w.grownBy w' (some b)) : Fr [b] w w' := ⟨h.os, h.tape, h.output, h.size, fun k hk hn => h.block k hk (fun e => hn (by injection e with e; simp [e]))⟩
theorem Fr.of_none {w w' : World} {F : List Nat} (h : w.grownBy w' none) : Fr F w w' := ⟨h.os, h.tape, h.output, h.size, fun k hk _ => h.block k hk (by simp)⟩
theorem Fr.set {F : List Nat} {w : World} (p : Addr) (hp : p.block ∈ F) (u : Value) : Fr F w (w.setCell p u) :=
  ⟨rfl, rfl, rfl, by simp [World.setCell], fun k _ hn => Below.heap_setCell w p u k (fun e => hn (e ▸ hp))⟩
theorem Fr.alloc {F : List Nat} (w : World) (o : Obj) : Fr F w (w.alloc o) := Fr.of_below ((Below.refl _ _).alloc (Nat.le_refl _) o)
/-- A block that is written: of a log, a slot, votes, a map, or an iterator. -/
def Mut (w : World) (b : Nat) : Prop := (∃ cs t fz, w.heap[b]? = some (.cells cs t fz) ∧ (t = 59 ∨ t = 67 ∨ t = 93)) ∨ (∃ es c, w.heap[b]? = some (.map es c)) ∨ ∃ m s n c, w.heap[b]? = some (.mapIter m s n c)
theorem Mut.lt {w : World} {b : Nat} (h : Mut w b) : b < w.heap.size := by
  rcases h with ⟨cs, t, fz, h, _⟩ | ⟨es, c, h⟩ | ⟨m, s, n, c, h⟩ <;> exact (Array.getElem?_eq_some_iff.1 h).1
theorem Mut.not {w : World} {b t : Nat} {cs : Array Value} {fz : Nat × Nat} (h : Mut w b) (hb : w.heap[b]? = some (.cells cs t fz)) (h1 : t ≠ 59) (h2 : t ≠ 67) (h3 : t ≠ 93) : False := by
  rcases h with ⟨cs', t', fz', h, ht⟩ | ⟨es, c, h⟩ | ⟨m, s, n, c, h⟩
  · rw [hb] at h
    injection h with h
    injection h with _ h
    subst h
    rcases ht with h | h | h
    · exact h1 h
    · exact h2 h
    · exact h3 h
  · rw [hb] at h
    injection h with h
    cases h
  · rw [hb] at h
    injection h with h
    cases h
section
variable {α : Type} {d : Kd α} {e : Nat} {w w' : World} {base : Nat} {ok : Nat → Prop} {v : Value} {F : List Nat}
/-- What is made of other blocks stays. -/
theorem R_fr {xs : List α} (h : d.R e w base ok v xs) (hF : Fr F w w') (hm : ∀ b ∈ F, Mut w b) (ht : ∀ q ∈ e :: d.E, q ≠ 59 ∧ q ≠ 67 ∧ q ≠ 93) : d.R e w' base ok v xs :=
  Kd.R_mono (Kd.R_move (Kd.R_bound h) (fun k hk => by
    obtain ⟨_, _, hlt, q, hq, cells, hc⟩ := hk
    obtain ⟨h1, h2, h3⟩ := ht q hq
    exact hF.block k hlt (fun hin => (hm k hin).not hc h1 h2 h3))) (fun _ hk => hk.1)
theorem M_fr {x : α} {cs : List Value} (h : d.M w base ok x cs) (hF : Fr F w w') (hm : ∀ b ∈ F, Mut w b) (ht : ∀ q ∈ d.E, q ≠ 59 ∧ q ≠ 67 ∧ q ≠ 93) : d.M w' base ok x cs :=
  d.M_mono (fun _ hk => hk.1) (d.M_move (fun k hk => by
    obtain ⟨_, _, hlt, q, hq, cells, hc⟩ := hk
    obtain ⟨h1, h2, h3⟩ := ht q hq
    exact hF.block k hlt (fun hin => (hm k hin).not hc h1 h2 h3)) (d.M_bound h))
end
theorem kB_types : ∀ q ∈ 5 :: kB.E, q ≠ 59 ∧ q ≠ 67 ∧ q ≠ 93 := by decide
theorem kS_types : ∀ q ∈ 46 :: kS.E, q ≠ 59 ∧ q ≠ 67 ∧ q ≠ 93 := by decide
theorem kS_typesM : ∀ q ∈ kS.E, q ≠ 59 ∧ q ≠ 67 ∧ q ≠ 93 := by decide
theorem Fr.other {F : List Nat} {w w' : World} {b t : Nat} {cs : Array Value} {fz : Nat × Nat} (hF : Fr F w w') (hm : ∀ b ∈ F, Mut w b) (hb : w.heap[b]? = some (.cells cs t fz)) (h1 : t ≠ 59) (h2 : t ≠ 67) (h3 : t ≠ 93) : w'.heap[b]? = some (.cells cs t fz) :=
  (hF.block b (Array.getElem?_eq_some_iff.1 hb).1 (fun hin => (hm b hin).not hb h1 h2 h3)).trans hb

/-- A vote: a text and a word. -/
structure Vote where
  sig : Sig
  word : ByteArray
/-- Votes, by seats. -/
abbrev Votes := Nat → Option Vote
def VotesAt (w : World) (b : Nat) (f : Int) (V : Votes) : Prop :=
  ∃ cs : Array Value, w.heap[b]? = some (.cells cs 93 (0, 0)) ∧ cs.size = 66 ∧ cs[0]? = some (.int .i64 f) ∧ ∀ i, i < 13 → cs[1 + i]? = some (.bool (V i).isSome) ∧
    ∀ v, V i = some v → (∃ c0 c1 c2, cs[14 + i * 3]? = some c0 ∧ cs[14 + i * 3 + 1]? = some c1 ∧ cs[14 + i * 3 + 2]? = some c2 ∧ kS.M w 0 tr v.sig [c0, c1, c2]) ∧ cs[53 + i]? = some (.string v.word)
theorem VotesAt.mut {w : World} {b : Nat} {f : Int} {V : Votes} (h : VotesAt w b f V) : Mut w b := by
  obtain ⟨cs, hb, _⟩ := h
  exact .inl ⟨cs, 93, _, hb, .inr (.inr rfl)⟩
theorem VotesAt.fr {w w' : World} {b : Nat} {f : Int} {V : Votes} {F : List Nat} (h : VotesAt w b f V) (hF : Fr F w w') (hm : ∀ b ∈ F, Mut w b) (hn : b ∉ F) : VotesAt w' b f V := by
  have hlt := h.mut.lt
  obtain ⟨cs, hb, hs, h0, hr⟩ := h
  refine ⟨cs, (hF.block b hlt hn).trans hb, hs, h0, fun i hi => ⟨(hr i hi).1, fun v hv => ?_⟩⟩
  obtain ⟨⟨c0, c1, c2, e0, e1, e2, hM⟩, hw⟩ := (hr i hi).2 v hv
  exact ⟨⟨c0, c1, c2, e0, e1, e2, M_fr hM hF hm kS_typesM⟩, hw⟩
/-- A certificate. -/
structure CertM where
  view : Int
  sum : List Int
  texts : List Sig
structure SlotM where
  pre : Option Sig
  sum : List Int
  prep : Votes
  comm : Votes
  cert : Option CertM
/-- A slot with its number and its blocks. -/
structure Ent where
  q : Int
  sb : Nat
  pb : Nat
  cb : Nat
  s : SlotM
def PreAt (w : World) (v : Value) : Option Sig → Prop
  | none => v = .pointer none
  | some g => ∃ b cs, v = ptr b ∧ w.heap[b]? = some (.cells cs 46 (0, 0)) ∧ kS.M w 0 tr g cs.toList
def CertAt (w : World) (v : Value) : Option CertM → Prop
  | none => v = .pointer none
  | some c => ∃ b vs vt, v = ptr b ∧ w.heap[b]? = some (.cells #[.int .u64 c.view, vs, vt] 76 (0, 0)) ∧ kB.R 5 w 0 tr vs c.sum ∧ kS.R 46 w 0 tr vt c.texts
theorem PreAt.fr {w w' : World} {v : Value} {g : Option Sig} {F : List Nat} (h : PreAt w v g) (hF : Fr F w w') (hm : ∀ b ∈ F, Mut w b) : PreAt w' v g := by
  cases g with
  | none => exact h
  | some g =>
    obtain ⟨b, cs, hv, hb, hM⟩ := h
    exact ⟨b, cs, hv, hF.other hm hb (by decide) (by decide) (by decide), M_fr hM hF hm kS_typesM⟩
theorem CertAt.fr {w w' : World} {v : Value} {c : Option CertM} {F : List Nat} (h : CertAt w v c) (hF : Fr F w w') (hm : ∀ b ∈ F, Mut w b) : CertAt w' v c := by
  cases c with
  | none => exact h
  | some c =>
    obtain ⟨b, vs, vt, hv, hb, h1, h2⟩ := h
    exact ⟨b, vs, vt, hv, hF.other hm hb (by decide) (by decide) (by decide), R_fr h1 hF hm kB_types, R_fr h2 hF hm kS_types⟩
def SlotAt (w : World) (f : Int) (e : Ent) : Prop :=
  ∃ vp vs vc, w.heap[e.sb]? = some (.cells #[vp, vs, ptr e.pb, ptr e.cb, vc] 67 (0, 0)) ∧ PreAt w vp e.s.pre ∧ kB.R 5 w 0 tr vs e.s.sum ∧ CertAt w vc e.s.cert ∧ VotesAt w e.pb f e.s.prep ∧ VotesAt w e.cb f e.s.comm
def blks (e : Ent) : List Nat := [e.sb, e.pb, e.cb]
theorem SlotAt.mut {w : World} {f : Int} {e : Ent} (h : SlotAt w f e) : ∀ b ∈ blks e, Mut w b := by
  obtain ⟨vp, vs, vc, hb, _, _, _, h1, h2⟩ := h
  intro b hin
  simp only [blks, List.mem_cons, List.not_mem_nil, or_false] at hin
  rcases hin with rfl | rfl | rfl
  · exact .inl ⟨_, 67, _, hb, .inr (.inl rfl)⟩
  · exact h1.mut
  · exact h2.mut
theorem SlotAt.fr {w w' : World} {f : Int} {e : Ent} {F : List Nat} (h : SlotAt w f e) (hF : Fr F w w') (hm : ∀ b ∈ F, Mut w b) (hn : ∀ b ∈ blks e, b ∉ F) : SlotAt w' f e := by
  have hlt := (h.mut e.sb (by simp [blks])).lt
  obtain ⟨vp, vs, vc, hb, h0, h1, h2, h3, h4⟩ := h
  exact ⟨vp, vs, vc, (hF.block _ hlt (hn _ (by simp [blks]))).trans hb, h0.fr hF hm, R_fr h1 hF hm kB_types, h2.fr hF hm, h3.fr hF hm (hn _ (by simp [blks])), h4.fr hF hm (hn _ (by simp [blks]))⟩
def foot (l m : Nat) (es : List Ent) : List Nat := l :: m :: es.flatMap blks
def pairs (es : List Ent) : List (Int × Nat) := es.map fun e => (e.q, e.sb)
/-- A log. -/
structure LogAt (w : World) (l m : Nat) (f low view : Int) (es : List Ent) : Prop where
  log : w.heap[l]? = some (.cells #[.int .i64 f, .int .u64 low, .int .u64 view, .map (some m)] 59 (0, 0))
  map : MapAt w m (pairs es)
  slots : ∀ e ∈ es, SlotAt w f e
  nodup : (foot l m es).Nodup
section
variable {w w' : World} {l m : Nat} {f low view : Int} {es : List Ent} {F : List Nat}
theorem LogAt.mut (h : LogAt w l m f low view es) : ∀ b ∈ foot l m es, Mut w b := by
  intro b hb
  rcases List.mem_cons.1 hb with rfl | hb
  · exact .inl ⟨_, 59, _, h.log, .inl rfl⟩
  · rcases List.mem_cons.1 hb with rfl | hb
    · obtain ⟨es', clock, hm, _⟩ := h.map
      exact .inr (.inl ⟨_, _, hm⟩)
    · obtain ⟨e, he, hb⟩ := List.mem_flatMap.1 hb
      exact (h.slots e he).mut b hb
theorem foot_ent {e : Ent} (he : e ∈ es) {b : Nat} (hb : b ∈ blks e) : b ∈ foot l m es := List.mem_cons_of_mem _ (List.mem_cons_of_mem _ (List.mem_flatMap.2 ⟨e, he, hb⟩))
theorem LogAt.lt (h : LogAt w l m f low view es) {b : Nat} (hb : b ∈ foot l m es) : b < w.heap.size := (h.mut b hb).lt
/-- Other logs may change. -/
theorem LogAt.fr (h : LogAt w l m f low view es) (hF : Fr F w w') (hm : ∀ b ∈ F, Mut w b) (hn : ∀ b ∈ foot l m es, b ∉ F) : LogAt w' l m f low view es :=
  ⟨(hF.block l (h.lt (List.mem_cons_self)) (hn l (List.mem_cons_self))).trans h.log, h.map.move (hF.block m (h.lt (by simp [foot])) (hn m (by simp [foot]))),
    fun e he => (h.slots e he).fr hF hm (fun b hb => hn b (foot_ent he hb)), h.nodup⟩
theorem LogAt.keep (h : LogAt w l m f low view es) (hb : Below w.heap.size w w') : LogAt w' l m f low view es := h.fr (Fr.of_below (F := []) hb) (by simp) (by simp)
theorem nodup_apart {l m : Nat} {a b : List Ent} {e : Ent} (h : (foot l m (a ++ e :: b)).Nodup) : (∀ x ∈ blks e, x ≠ l ∧ x ≠ m) ∧ (∀ e' ∈ a, ∀ x ∈ blks e', x ∉ blks e) ∧ (∀ e' ∈ b, ∀ x ∈ blks e', x ∉ blks e) ∧ (blks e).Nodup := by
  unfold foot at h
  rw [List.flatMap_append, List.flatMap_cons] at h
  rw [List.nodup_cons, List.nodup_cons] at h
  obtain ⟨h1, h2, h3⟩ := h
  rw [List.nodup_append] at h3
  obtain ⟨_, h4, h5⟩ := h3
  rw [List.nodup_append] at h4
  obtain ⟨h6, _, h7⟩ := h4
  refine ⟨fun x hx => ⟨?_, ?_⟩, fun e' he' x hx hin => ?_, fun e' he' x hx hin => ?_, h6⟩
  · rintro rfl
    exact h1 (List.mem_cons_of_mem _ (List.mem_append_right _ (List.mem_append_left _ hx)))
  · rintro rfl
    exact h2 (List.mem_append_right _ (List.mem_append_left _ hx))
  · exact h5 x (List.mem_flatMap.2 ⟨e', he', hx⟩) x (List.mem_append_left _ hin) rfl
  · exact h7 x hin x (List.mem_flatMap.2 ⟨e', he', hx⟩) rfl
/-- One slot changes, in its own blocks. -/
theorem LogAt.set {a b : List Ent} {e e' : Ent} (h : LogAt w l m f low view (a ++ e :: b)) (hF : Fr F w w') (hs : ∀ x ∈ F, x ∈ blks e) (hq : e'.q = e.q) (hsb : e'.sb = e.sb) (hpb : e'.pb = e.pb) (hcb : e'.cb = e.cb) (hn : SlotAt w' f e') : LogAt w' l m f low view (a ++ e' :: b) := by
  obtain ⟨h1, h2, h3, _⟩ := nodup_apart h.nodup
  have hm : ∀ x ∈ F, Mut w x := fun x hx => (h.slots e (by simp)).mut x (hs x hx)
  have hbl : blks e' = blks e := by simp [blks, hsb, hpb, hcb]
  refine ⟨(hF.block l (h.lt (List.mem_cons_self)) (fun hin => (h1 l (hs l hin)).1 rfl)).trans h.log, ?_, ?_, ?_⟩
  · have e1 : pairs (a ++ e' :: b) = pairs (a ++ e :: b) := by simp [pairs, hq, hsb]
    rw [e1]
    exact h.map.move (hF.block m (h.lt (by simp [foot])) (fun hin => (h1 m (hs m hin)).2 rfl))
  · intro x hx
    rcases List.mem_append.1 hx with hx | hx
    · exact (h.slots x (List.mem_append_left _ hx)).fr hF hm (fun k hk hin => h2 x hx k hk (hs k hin))
    · rcases List.mem_cons.1 hx with rfl | hx
      · exact hn
      · exact (h.slots x (by simp [hx])).fr hF hm (fun k hk hin => h3 x hx k hk (hs k hin))
  · have e2 : foot l m (a ++ e' :: b) = foot l m (a ++ e :: b) := by
      unfold foot
      rw [List.flatMap_append, List.flatMap_append, List.flatMap_cons, List.flatMap_cons, hbl]
    rw [e2]
    exact h.nodup
end
end Go.Proofs.Ytfjfggnbkopocaa
