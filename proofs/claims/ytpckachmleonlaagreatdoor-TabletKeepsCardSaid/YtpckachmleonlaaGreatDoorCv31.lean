/- Words and walks for Split and Tablet: texts of these sessions, and of the kit's print, cut down to what is used (E3 F3). -/
import Derived.Test.YtpckachmleonlaaGreatDoorCv30
import Derived.Maps.Range
import Derived.Maps.RangeRun
import Derived.Maps.Keyed
import Derived.DeepKeys4
section
set_option linter.unusedVariables false
set_option linter.unusedSimpArgs false
namespace Go.Proofs.YtpckachmleonlaaGreatDoor
open Go.RowKit Go.MapKept Go.Maps Go.Proofs.YtpckachmleonlaaGreatDoorW.PrintWords
open Go.ChangeMaps (setBlock heap_setBlock_same heap_setBlock_other modify_eq_set)
structure OkK (k : KeyM) : Prop where
 s0 : k.f0.size ≤ maxLen
 s1 : k.f1.size ≤ maxLen
 s2 : k.f2.size ≤ maxLen
 t : (Lit.int .u64 k.f3).wf = true
theorem keyV_inj {a b : KeyM} (h : keyV a = keyV b) : a = b := by
 obtain ⟨r, f, q, t⟩ := a
 obtain ⟨r', f', q', t'⟩ := b
 unfold keyV at h
 simp only at h
 injection h with h
 simp only [Array.mk.injEq, List.cons.injEq, Value.string.injEq, Value.int.injEq, true_and, and_true] at h
 obtain ⟨rfl, rfl, rfl, rfl⟩ := h
 rfl
theorem laidOut5 : laidOutB Tryz.prog = true := by kernel_rfl
theorem row46 : (46 : TypeId) < Tryz.prog.types.size := of_decide_eq_true (by kernel_rfl)
theorem kt46 : Tryz.prog.keyTypeAt 2 46 = true := by kernel_rfl
theorem law46 : Keyed Tryz.prog 46 := Keyed.of_law (deep_law_laid (P := Tryz.prog) laidOut5 (m := 2) (by omega) (k := 46) row46 kt46 (by rw [Tryz.underlying46]))
theorem keyT46 : Tryz.prog.keyType 46 = true := by kernel_rfl
theorem keyOf_four {P : Program} {k ts tu : TypeId} {fs : Array Field} (hu : P.underlying k = some (.struct fs)) (hf : fs.toList.map (fun f => (f.type, f.offset)) = [(ts, 0), (ts, 1), (ts, 2), (tu, 3)]) (hn : fs.all (·.name != "_") = true)
  (hc : P.cellsOf k = 4) (us : P.underlying ts = some .string) (uu : P.underlying tu = some (.int .u64)) (cs : P.cellsOf ts = 1) (cu : P.cellsOf tu = 1) (hkt : P.keyType k = true) (hz : 0 < P.types.size)
  {r f q : ByteArray} {t : Int} (h0 : r.size ≤ maxLen) (h1 : f.size ≤ maxLen) (h2 : q.size ≤ maxLen) (h3 : (Lit.int .u64 t).wf = true) : ∃ l, Go.keyOf P k (.agg #[.string r, .string f, .string q, .int .u64 t]) = some l := by
 obtain ⟨m, hm⟩ : ∃ m, P.types.size = m + 1 := ⟨P.types.size - 1, by omega⟩
 have hfm : (Value.agg #[.string r, .string f, .string q, .int .u64 t]).formed P k = true := by simp [Value.formed, hu, hc]
 unfold Go.keyOf
 simp only [hu]
 rw [if_pos (by rw [hkt, hfm]; rfl), hm]
 unfold Program.keyLits
 simp only [hu, Value.cells]
 rw [if_pos ⟨by rw [hc]; rfl, hn⟩]
 have e : (fs.toList.mapM fun f' => P.keyLits (m + 1) f'.type ((([Value.string r, .string f, .string q, .int .u64 t] : List Value).drop f'.offset).take (P.cellsOf f'.type))) = ((fs.toList.map fun f => (f.type, f.offset)).mapM fun p => P.keyLits (m + 1) p.1 ((([Value.string r, .string f, .string q, .int .u64 t] : List Value).drop p.2).take (P.cellsOf p.1))) := by
  rw [List.mapM_map]
  rfl
 rw [e, hf]
 simp [List.mapM_cons, Program.keyLits, us, uu, cs, cu, h0, h1, h2, h3]
theorem name46 : ∀ fs, Tryz.prog.underlying 46 = some (.struct fs) → fs.all (·.name != "_") = true := fun fs h => by
 rw [Tryz.underlying46] at h
 injection h with h
 injection h with h
 rw [← h]
 simp
theorem key46 {k : KeyM} (h : OkK k) : ∃ l, Go.keyOf Tryz.prog 46 (keyV k) = some l :=
 keyOf_four (P := Tryz.prog) (k := 46) (ts := 9) (tu := 44) Tryz.underlying46 rfl (name46 _ Tryz.underlying46) (by kernel_rfl) Tryz.underlying9 Tryz.underlying44 (by kernel_rfl) (by kernel_rfl) keyT46 (of_decide_eq_true (by kernel_rfl)) h.s0 h.s1 h.s2 h.t
def Ents (es : List MapEntry) (l : List (KeyM × Int)) : Prop := es.map (fun e => (e.key, e.val)) = l.map (fun p => (keyV p.1, Value.int .i64 p.2))
def MapAt (w : World) (m : Nat) (l : List (KeyM × Int)) : Prop :=
 ∃ es clock, w.heap[m]? = some (.map es clock) ∧ Stamped es clock ∧ Ents es.toList l ∧ ∀ p ∈ l, OkK p.1
def getI (l : List (KeyM × Int)) (q : KeyM) : Int := ((l.find? (fun p => decide (p.1 = q))).map (·.2)).getD 0
def setI (l : List (KeyM × Int)) (q : KeyM) (v : Int) : List (KeyM × Int) := if l.any (fun p => decide (p.1 = q)) then l.map (fun p => if p.1 = q then (q, v) else p) else l ++ [(q, v)]
theorem getI_set (l : List (KeyM × Int)) (q : KeyM) (v : Int) (k : KeyM) : getI (setI l q v) k = if k = q then v else getI l k := by
 unfold setI
 by_cases ha : l.any (fun p => decide (p.1 = q)) = true
 ·rw [if_pos ha]
  unfold getI
  induction l with
  | nil => simp at ha
  | cons a r ih =>
   rw [List.map_cons, List.find?_cons, List.find?_cons]
   by_cases h1 : a.1 = q
   ·rw [if_pos h1]
    by_cases h2 : k = q
    ·subst h2
     simp
    ·have h3 : ¬ q = k := fun e => h2 e.symm
     have h4 : ¬ a.1 = k := fun e => h2 (by rw [← e, h1])
     rw [if_neg h2]
     simp only [h3, h4, decide_false]
     by_cases hr : r.any (fun p => decide (p.1 = q)) = true
     ·have := ih hr
      rw [if_neg h2] at this
      exact this
     ·have hr' : ∀ p ∈ r, ¬ p.1 = q := fun p hp e => hr (List.any_eq_true.2 ⟨p, hp, decide_eq_true e⟩)
      have e : (r.map fun p => if p.1 = q then (q, v) else p) = r := by
       conv => rhs; rw [← List.map_id r]
       apply List.map_congr_left
       intro p hp
       rw [if_neg (hr' p hp)]
       rfl
      rw [e]
   ·rw [if_neg h1]
    have hr : r.any (fun p => decide (p.1 = q)) = true := by simpa [h1] using ha
    by_cases h5 : a.1 = k
    ·have h6 : ¬ k = q := fun e => h1 (by rw [h5, e])
     simp [h5, h6]
    ·simp only [h5, decide_false]
     exact ih hr
 ·rw [if_neg ha]
  unfold getI
  have ha' : ∀ p ∈ l, ¬ p.1 = q := fun p hp e => ha (List.any_eq_true.2 ⟨p, hp, decide_eq_true e⟩)
  rw [List.find?_append]
  by_cases h2 : k = q
  ·subst h2
   rw [if_pos rfl, List.find?_eq_none.2 (fun p hp => by simpa using ha' p hp)]
   simp
  ·have h3 : ¬ q = k := fun e => h2 e.symm
   rw [if_neg h2]
   simp [h3]
theorem Ents.get {es : List MapEntry} {l : List (KeyM × Int)} (h : Ents es l) {j : Nat} {e : MapEntry} (he : es[j]? = some e) : ∃ p, l[j]? = some p ∧ e.key = keyV p.1 ∧ e.val = .int .i64 p.2 := by
 have h1 := congrArg (fun x => x[j]?) h
 simp only [List.getElem?_map, he, Option.map_some] at h1
 cases hp : l[j]? with
 | none => rw [hp] at h1; cases h1
 | some p =>
  rw [hp] at h1
  simp only [Option.map_some, Option.some.injEq, Prod.mk.injEq] at h1
  exact ⟨p, rfl, h1.1, h1.2⟩
theorem Ents.mem {es : List MapEntry} {l : List (KeyM × Int)} (h : Ents es l) {e : MapEntry} (he : e ∈ es) : ∃ p, p ∈ l ∧ e.key = keyV p.1 ∧ e.val = .int .i64 p.2 := by
 obtain ⟨j, hj⟩ := List.getElem?_of_mem he
 obtain ⟨p, hp, h1⟩ := h.get hj
 exact ⟨p, List.mem_of_getElem? hp, h1⟩
theorem Ents.of {es : List MapEntry} {l : List (KeyM × Int)} (h : Ents es l) {p : KeyM × Int} (hp : p ∈ l) : ∃ e, e ∈ es ∧ e.key = keyV p.1 ∧ e.val = .int .i64 p.2 := by
 have h1 : (keyV p.1, Value.int .i64 p.2) ∈ l.map (fun p => (keyV p.1, Value.int .i64 p.2)) := List.mem_map.2 ⟨p, hp, rfl⟩
 unfold Ents at h
 rw [← h] at h1
 obtain ⟨e, he, h2⟩ := List.mem_map.1 h1
 simp only [Prod.mk.injEq] at h2
 exact ⟨e, he, h2.1, h2.2⟩
theorem Ents.nodup {es : Array MapEntry} {clock : Nat} {l : List (KeyM × Int)} (h : Ents es.toList l) (hs : Stamped es clock) : (l.map (·.1)).Nodup := by
 have h1 := hs.2.2
 have h2 : es.toList.map (·.key) = l.map (fun p => keyV p.1) := by
  have := congrArg (List.map Prod.fst) h
  simpa [List.map_map, Function.comp_def] using this
 rw [h2] at h1
 have h3 : l.map (fun p => keyV p.1) = (l.map (·.1)).map keyV := by simp [List.map_map, Function.comp_def]
 rw [h3] at h1
 exact List.Pairwise.of_map keyV (fun a b h e => h (congrArg keyV e)) h1
theorem Ents.put {es : Array MapEntry} {clock : Nat} {l : List (KeyM × Int)} {q : KeyM} (h : Ents es.toList l) (hs : Stamped es clock) {j : Nat} {e0 : MapEntry} (h2 : es.toList[j]? = some e0) (h3 : e0.key = keyV q) (s : Int) :
  Ents (es.modify j (fun e' => { e' with key := keyV q, val := .int .i64 s })).toList (l.map (fun p => if p.1 = q then (q, s) else p)) := by
 rw [Array.toList_modify, modify_eq_set _ _ _ _ h2]
 obtain ⟨p, hp, h5, h6⟩ := h.get h2
 have h7 : p.1 = q := keyV_inj (h5.symm.trans h3)
 have hn := h.nodup hs
 unfold Ents
 apply List.ext_getElem?
 intro i
 have h0 := congrArg (fun x => x[i]?) h
 simp only [List.getElem?_map] at h0
 rw [List.getElem?_map, List.getElem?_map, List.getElem?_set]
 rw [List.getElem?_map]
 by_cases hij : j = i
 ·subst hij
  have hlt : j < es.toList.length := (List.getElem?_eq_some_iff.1 h2).1
  rw [if_pos rfl, if_pos hlt, hp]
  simp [h7]
 ·rw [if_neg hij, h0]
  cases hli : l[i]? with
  | none => rfl
  | some p' =>
   have hne : p'.1 ≠ q := by
    intro e
    apply hij
    have h8 : (l.map (·.1))[i]? = some q := by rw [List.getElem?_map, hli]; simp [e]
    have h9 : (l.map (·.1))[j]? = some q := by rw [List.getElem?_map, hp]; simp [h7]
    have hli' : i < (l.map (·.1)).length := (List.getElem?_eq_some_iff.1 h8).1
    exact ((List.getElem?_inj hli' hn).1 (h8.trans h9.symm)).symm
   simp [hne]
theorem MapAt.lt {w : World} {m : Nat} {l : List (KeyM × Int)} (h : MapAt w m l) : m < w.heap.size := by
 obtain ⟨es, clock, hb, _⟩ := h
 exact (Array.getElem?_eq_some_iff.1 hb).1
theorem MapAt.move {w w1 : World} {m : Nat} {l : List (KeyM × Int)} (h : MapAt w m l) (hm : w1.heap[m]? = w.heap[m]?) : MapAt w1 m l := by
 obtain ⟨es, clock, hb, hs, he, hq⟩ := h
 exact ⟨es, clock, hm.trans hb, hs, he, hq⟩
theorem MapAt.keep {w w1 : World} {m : Nat} {l : List (KeyM × Int)} (h : MapAt w m l) (hb : Below w.heap.size w w1) : MapAt w1 m l := h.move (hb.block m h.lt)
theorem MapAt.made (w : World) : MapAt (w.alloc (.map #[] 0)) w.heap.size [] :=
 ⟨#[], 0, (MapKept.heap_alloc w _).1, stamped_empty 0, rfl, by simp⟩
theorem getI_none {l : List (KeyM × Int)} {q : KeyM} (h : ∀ p ∈ l, p.1 ≠ q) : getI l q = 0 := by
 unfold getI
 rw [List.find?_eq_none.2 (fun p hp => by simpa using h p hp)]
 rfl
theorem getI_some {l : List (KeyM × Int)} (hn : (l.map (·.1)).Nodup) {p : KeyM × Int} (hp : p ∈ l) : getI l p.1 = p.2 := by
 induction l with
 | nil => cases hp
 | cons a r ih =>
  rw [List.map_cons, List.nodup_cons] at hn
  unfold getI
  rw [List.find?_cons]
  rcases List.mem_cons.1 hp with rfl | hp
  ·simp
  ·have hne : ¬ a.1 = p.1 := fun e => hn.1 (e ▸ List.mem_map.2 ⟨p, hp, rfl⟩)
   simp only [hne, decide_false]
   exact ih hn.2 hp
section
variable {t e : TypeId} (ht : Tryz.prog.underlying t = some (.map 46 e))
variable {w : World} {m : Nat} {l : List (KeyM × Int)} {q : KeyM}
theorem ents_reads {es : List MapEntry} (he : Ents es l) (hq : ∀ p ∈ l, OkK p.1) : ∀ x ∈ es, ∃ y, Go.keyOf Tryz.prog 46 x.key = some y := by
 intro x hx
 obtain ⟨p, hp, h1, _⟩ := he.mem hx
 obtain ⟨y, hy⟩ := key46 (hq p hp)
 exact ⟨y, by rw [h1]; exact hy⟩
include ht
theorem MapAt.lookup (h : MapAt w m l) (hz : (zeroValue e).run Tryz.prog w = .ok (.int .i64 0) w) (hq : OkK q) :
  (Instr.lookup t (.map (some m)) (keyV q) false).run Tryz.prog w = .ok (.int .i64 (getI l q)) w := by
 obtain ⟨es, clock, hb, hs, he, hl⟩ := h
 have K := law46
 obtain ⟨y, hy⟩ := key46 hq
 rcases K.find w hy es.toList (ents_reads he hl) with ⟨h1, h2⟩ | ⟨j, e0, h1, h2, h3⟩
 ·have h4 : getI l q = 0 := getI_none (fun p hp h5 => by
   obtain ⟨x, hx, h6, _⟩ := he.of hp
   exact h2 x hx (by rw [h6, h5]))
  rw [h4]
  simp [Instr.lookup, run_underlying ht, MapKept.run_getObj_map hb, K.check w _ hy, h1, hz, Result.andThen]
 ·obtain ⟨p, hp, h5, h6⟩ := he.get h2
  have h7 : p.1 = q := keyV_inj (h5.symm.trans h3)
  have h4 : getI l q = p.2 := by
   rw [← h7]
   exact getI_some (he.nodup hs) (List.mem_of_getElem? hp)
  rw [h4]
  simp [Instr.lookup, run_underlying ht, MapKept.run_getObj_map hb, K.check w _ hy, h1, Result.andThen, h6]
def touchI (l : List (KeyM × Int)) (q : KeyM) : List (KeyM × Int) := if l.any (fun p => decide (p.1 = q)) then l else l ++ [(q, 0)]
omit ht in
theorem getI_touch (l : List (KeyM × Int)) (q k : KeyM) : getI (touchI l q) k = getI l k := by
 unfold touchI
 by_cases ha : l.any (fun p => decide (p.1 = q)) = true
 ·rw [if_pos ha]
 ·rw [if_neg ha]
  have ha' : ∀ p ∈ l, ¬ p.1 = q := fun p hp e => ha (List.any_eq_true.2 ⟨p, hp, decide_eq_true e⟩)
  unfold getI
  rw [List.find?_append]
  by_cases h2 : q = k
  ·subst h2
   rw [List.find?_eq_none.2 (fun p hp => by simpa using ha' p hp)]
   simp
  ·simp [h2]
omit ht in
theorem findIdx_arr (xs : Array MapEntry) (p : MapEntry → Bool) : xs.findIdx? p = xs.toList.findIdx? p := by
 cases xs
 simp
omit ht in
theorem findIdx_born {l : List MapEntry} (hn : (l.map (·.born)).Nodup) {j : Nat} {e0 : MapEntry} (h : l[j]? = some e0) : l.findIdx? (fun e => ((e.born : Nat) : Int) == ((e0.born : Nat) : Int)) = some j := by
 rw [List.findIdx?_eq_some_iff_getElem]
 obtain ⟨hj, he⟩ := List.getElem?_eq_some_iff.1 h
 refine ⟨hj, by rw [he]; simp, fun i hi => ?_⟩
 have hne : (l.map (·.born))[i]'(by rw [List.length_map]; omega) ≠ (l.map (·.born))[j]'(by rw [List.length_map]; exact hj) := fun e => by
  have := (List.getElem_inj hn).1 e
  omega
 rw [List.getElem_map, List.getElem_map, he] at hne
 simp only [beq_eq_false_iff_ne, Bool.not_eq_true, ne_eq]
 intro e
 exact hne (by omega)
theorem MapAt.entry (h : MapAt w m l) (hz : ∀ W : World, (zeroValue e).run Tryz.prog W = .ok (.int .i64 0) W) (hq : OkK q) :
  ∃ (st : Nat) (ob : Obj), (Instr.mapEntry t (.map (some m)) (keyV q)).run Tryz.prog w = .ok (.tuple #[.int .i64 (getI l q), .int .i64 st]) (setBlock w m ob) ∧ MapAt (setBlock w m ob) m (touchI l q) ∧
   ∀ (W : World) (v : Int), W.heap[m]? = some ob → ∃ ob2, (Instr.entryStore t (.map (some m)) (.int .i64 st) (.int .i64 v)).run Tryz.prog W = .ok () (setBlock W m ob2) ∧ MapAt (setBlock W m ob2) m (setI l q v) := by
 obtain ⟨es, clock, hb, hs, he, hl⟩ := h
 have K := law46
 obtain ⟨y, hy⟩ := key46 hq
 rcases K.find w hy es.toList (ents_reads he hl) with ⟨h1, h2⟩ | ⟨j, e0, h1, h2, h3⟩
 ·have hno : l.any (fun p => decide (p.1 = q)) = false := List.any_eq_false.2 (fun p hp e => by
   obtain ⟨x, hx, h6, _⟩ := he.of hp
   exact h2 x hx (by rw [h6, of_decide_eq_true e]))
  have h4 : getI l q = 0 := getI_none (fun p hp h5 => by
   obtain ⟨x, hx, h6, _⟩ := he.of hp
   exact h2 x hx (by rw [h6, h5]))
  have hs1 := stamped_push (val := .int .i64 0) hs h2
  have hE : ∀ v, Ents (es.push ⟨keyV q, .int .i64 v, clock⟩).toList (l ++ [(q, v)]) := fun v => by
   unfold Ents at he ⊢
   rw [Array.toList_push, List.map_append, List.map_append, he]
   rfl
  have hK : ∀ v, ∀ p ∈ l ++ [(q, v)], OkK p.1 := fun v p hp => by
   rcases List.mem_append.1 hp with hp | hp
   ·exact hl p hp
   ·rw [List.mem_singleton.1 hp]
    exact hq
  refine ⟨clock, .map (es.push ⟨keyV q, .int .i64 0, clock⟩) (clock + 1), ?_, ⟨_, _, heap_setBlock_same hb _, hs1, ?_, ?_⟩, fun W v hW => ?_⟩
  ·rw [h4]
   simp [Instr.mapEntry, run_underlying ht, MapKept.run_getObj_map hb, K.check w false hy, h1, hz, MapKept.run_setObj_map _ hb, Result.andThen, setBlock, goInt]
  ·unfold touchI; rw [hno]; exact hE 0
  ·unfold touchI; rw [hno]; exact hK 0
  ·have hidx : (es.push ⟨keyV q, .int .i64 0, clock⟩).findIdx? (fun e => ((e.born : Nat) : Int) == ((clock : Nat) : Int)) = some es.size := by
    have := findIdx_born (l := (es.push ⟨keyV q, .int .i64 0, clock⟩).toList) (j := es.size) (e0 := ⟨keyV q, .int .i64 0, clock⟩) hs1.2.1 (by simp)
    rw [findIdx_arr]
    exact this
   have hmod : (es.push ⟨keyV q, .int .i64 0, clock⟩).modify es.size (fun e' => { e' with val := .int .i64 v }) = es.push ⟨keyV q, .int .i64 v, clock⟩ := by
    apply Array.ext'
    rw [Array.toList_modify, modify_eq_set _ _ _ ⟨keyV q, .int .i64 0, clock⟩ (by simp)]
    simp
   refine ⟨.map (es.push ⟨keyV q, .int .i64 v, clock⟩) (clock + 1), ?_, _, _, heap_setBlock_same hW _, stamped_push hs h2, ?_, ?_⟩
   ·simp [Instr.entryStore, MapKept.run_getObj_map hW, asInt, asIntOf, hidx, hmod, MapKept.run_setObj_map _ hW, Result.andThen, setBlock]
   ·unfold setI; rw [hno]; exact hE v
   ·unfold setI; rw [hno]; exact hK v
 ·obtain ⟨p, hp, h5, h6⟩ := he.get h2
  have h7 : p.1 = q := keyV_inj (h5.symm.trans h3)
  have hyes : l.any (fun p => decide (p.1 = q)) = true := List.any_eq_true.2 ⟨p, List.mem_of_getElem? hp, decide_eq_true h7⟩
  have h4 : getI l q = p.2 := by
   rw [← h7]
   exact getI_some (he.nodup hs) (List.mem_of_getElem? hp)
  have hj : es[j]? = some e0 := by simpa using h2
  have hsame : es.modify j (fun e' => { e' with key := keyV q }) = es := by
   apply Array.ext'
   rw [Array.toList_modify, modify_eq_set _ _ _ _ h2]
   have e : ({ e0 with key := keyV q } : MapEntry) = e0 := by cases e0; simp at h3; simp [h3]
   rw [e]
   apply List.ext_getElem?
   intro i
   rw [List.getElem?_set]
   split
   ·rename_i hi
    subst hi
    have hlt : j < es.toList.length := (List.getElem?_eq_some_iff.1 h2).1
    rw [if_pos hlt, h2]
   ·rfl
  refine ⟨e0.born, .map es clock, ?_, ⟨_, _, heap_setBlock_same hb _, hs, ?_, ?_⟩, fun W v hW => ?_⟩
  ·rw [h4]
   simp [Instr.mapEntry, run_underlying ht, MapKept.run_getObj_map hb, K.check w false hy, h1, hj, h3, K.stays w hy, hsame, MapKept.run_setObj_map _ hb, Result.andThen, setBlock, goInt, h6]
  ·unfold touchI; rw [hyes]; exact he
  ·unfold touchI; rw [hyes]; exact hl
  ·have hidx : es.findIdx? (fun e => ((e.born : Nat) : Int) == ((e0.born : Nat) : Int)) = some j := by
    rw [findIdx_arr]
    exact findIdx_born hs.2.1 h2
   have hmod : es.modify j (fun e' => { e' with val := .int .i64 v }) = es.modify j (fun e' => { e' with key := keyV q, val := .int .i64 v }) := by
    apply Array.ext'
    rw [Array.toList_modify, Array.toList_modify, modify_eq_set _ _ _ _ h2, modify_eq_set _ _ _ _ h2, h3]
   refine ⟨.map (es.modify j (fun e' => { e' with key := keyV q, val := .int .i64 v })) clock, ?_, _, _, heap_setBlock_same hW _, stamped_modify hs _ _ (fun _ _ => rfl) (fun e' _ he' => by rw [hj] at he'; cases he'; exact h3.symm), ?_, ?_⟩
   ·simp [Instr.entryStore, MapKept.run_getObj_map hW, asInt, asIntOf, hidx, hmod, MapKept.run_setObj_map _ hW, Result.andThen, setBlock]
   ·unfold setI
    rw [if_pos hyes]
    exact he.put hs h2 h3 v
   ·unfold setI
    rw [if_pos hyes]
    intro p' hp'
    obtain ⟨p'', hp'', rfl⟩ := List.mem_map.1 hp'
    by_cases h9 : p''.1 = q
    ·rw [if_pos h9]
     exact hq
    ·rw [if_neg h9]
     exact hl _ hp''
end
theorem below_setBlock {w w1 : World} {m base : Nat} (h : Below base w w1) (hm : base ≤ m) (ob : Obj) : Below base w (setBlock w1 m ob) :=
 h.trans ⟨rfl, rfl, rfl, by simp [setBlock], fun k hk => by
  unfold setBlock
  show (w1.heap.setIfInBounds m ob)[k]? = _
  rw [Array.getElem?_setIfInBounds_ne (by omega)]⟩
theorem size_setBlock (w : World) (m : Nat) (ob : Obj) : (setBlock w m ob).heap.size = w.heap.size := by simp [setBlock]
end Go.Proofs.YtpckachmleonlaaGreatDoor
end
section
set_option linter.unusedVariables false
set_option linter.unusedSimpArgs false
namespace Go.Proofs.YtpckachmleonlaaGreatDoor
open Go.RowKit Go.Proofs.YtpckachmleonlaaGreatDoorW.PrintWords
def col0 (k : KeyM) : KeyM := ⟨k.f0, k.f1, k.f2, 0⟩
theorem col0_eq {a b : KeyM} : col0 a = col0 b ↔ colB a b = true := by
  obtain ⟨r, f, q, t⟩ := a
  obtain ⟨r', f', q', t'⟩ := b
  simp [col0, colB]
theorem colB_comm (a b : KeyM) : colB a b = colB b a := by
  have h1 := col0_eq (a := a) (b := b)
  have h2 := col0_eq (a := b) (b := a)
  rw [Bool.eq_iff_iff, ← h1, ← h2]
  exact eq_comm
theorem colC_snoc (k : KeyM) (xs : List CellM) (x : CellM) : colC k (xs ++ [x]) = colC k xs ++ if colB x.f0 k then [x] else [] := by
  unfold colC
  rw [List.filter_append]
  congr 1
  by_cases h : colB x.f0 k = true
  · simp [h]
  · simp [h]
theorem colC_same {a b : KeyM} (h : colB a b = true) (xs : List CellM) : colC a xs = colC b xs := by
  unfold colC
  apply List.filter_congr
  intro x _
  have e := col0_eq.2 h
  have h1 := col0_eq (a := x.f0) (b := a)
  have h2 := col0_eq (a := x.f0) (b := b)
  rw [Bool.eq_iff_iff, ← h1, ← h2, e]
def manyB (l : List CellM) : Bool := l.any fun x => decide (4 < (colC x.f0 l).length)
structure Many (xs : List CellM) (m : List (KeyM × Int)) (n : Int) : Prop where
  get : ∀ k, getI m (col0 k) = (colC k xs).length
  lo : 0 ≤ n
  hi : n ≤ xs.length
  big : 4 < n ↔ manyB xs = true
theorem Many.nil : Many [] [] 0 := ⟨fun k => rfl, by omega, by simp, by simp [manyB]⟩
theorem colC_len (k : KeyM) (xs : List CellM) : (colC k xs).length ≤ xs.length := List.length_filter_le _ _
theorem Many.snoc {xs : List CellM} {m : List (KeyM × Int)} {n : Int} (h : Many xs m n) (x : CellM) :
    Many (xs ++ [x]) (setI m (col0 x.f0) (getI m (col0 x.f0) + 1)) (max n (getI m (col0 x.f0) + 1)) := by
  have hg := h.get x.f0
  have hle := colC_len x.f0 xs
  have hxx : colB x.f0 x.f0 = true := col0_eq.1 rfl
  refine ⟨fun k => ?_, by have := h.lo; omega, ?_, ?_⟩
  · rw [getI_set, colC_snoc]
    by_cases e : col0 k = col0 x.f0
    · have e2 := col0_eq.1 e
      rw [if_pos e, colB_comm, e2, h.get, colC_same e2]
      simp
    · have e2 : colB x.f0 k = false := by
        rw [colB_comm]
        cases h3 : colB k x.f0 with
        | false => rfl
        | true => exact absurd (col0_eq.2 h3) e
      rw [if_neg e, e2, h.get]
      simp
  · have := h.hi
    rw [List.length_append, List.length_singleton]
    omega
  · have hb := h.big
    have key : manyB (xs ++ [x]) = true ↔ (manyB xs = true ∨ 4 < (colC x.f0 xs).length + 1) := by
      unfold manyB
      rw [List.any_eq_true, List.any_eq_true]
      constructor
      · rintro ⟨y, hy, h4⟩
        have h4 := of_decide_eq_true h4
        rw [colC_snoc] at h4
        by_cases e : colB x.f0 y.f0 = true
        · rw [e, ← colC_same e] at h4
          exact .inr (by simpa using h4)
        · have e' : colB x.f0 y.f0 = false := by simpa using e
          rw [e'] at h4
          rcases List.mem_append.1 hy with hy | hy
          · exact .inl ⟨y, hy, decide_eq_true (by simpa using h4)⟩
          · rw [List.mem_singleton.1 hy] at e'
            rw [hxx] at e'
            cases e'
      · rintro (⟨y, hy, h4⟩ | h4)
        · refine ⟨y, List.mem_append_left _ hy, decide_eq_true ?_⟩
          have h4 := of_decide_eq_true h4
          rw [colC_snoc, List.length_append]
          omega
        · refine ⟨x, by simp, decide_eq_true ?_⟩
          rw [colC_snoc, hxx]
          simpa using h4
    rw [key, ← hb, hg]
    omega
def ltS (a b : ByteArray) : Bool := decide (Cp.cmpL a.data.toList b.data.toList < 0)
def rightT (a b : ByteArray) : Bool := decide (a.size ≤ 32) && decide (b.size ≤ 32) && (decide (b.size = 0) || ltS a b)
def insT (a b r : ByteArray) : Bool := Cp.isB r a b
theorem insT_eq (a b r : ByteArray) : insT a b r = (!ltS r a && (decide (b.size = 0) || ltS r b)) := rfl
theorem ltS_trans {a b c : ByteArray} (h : ltS a b = true) (k : ltS b c = true) : ltS a c = true := by
  have h1 := of_decide_eq_true h
  have h2 := of_decide_eq_true k
  have e : ∀ x y : List UInt8, Cp.cmpL x y < 0 ↔ ltI (Cp.nums x) (Cp.nums y) := fun x y => by
    unfold ltI cmpI
    rw [u8s_nums, u8s_nums, cb_cmpL]
  exact decide_eq_true ((e _ _).2 (ltI_trans ((e _ _).1 h1) ((e _ _).1 h2)))
theorem ltS_self (a : ByteArray) : ltS a a = false := decide_eq_false (by rw [Cp.cmpL_self]; omega)
theorem ltS_asymm {a b : ByteArray} (h : ltS a b = true) : ltS b a = false := by
  cases hb : ltS b a with
  | false => rfl
  | true => rw [← ltS_self a, ltS_trans h hb]
theorem ltS_total {a b : ByteArray} (h : ltS a b = false) : a = b ∨ ltS b a = true := by
  have h1 := of_decide_eq_false h
  have h2 := Cp.cmpL_swap a.data.toList b.data.toList
  by_cases h3 : Cp.cmpL a.data.toList b.data.toList = 0
  · exact .inl (Go.WideShapes.bytes_inj (Cp.cmpL_eq h3))
  · exact .inr (decide_eq_true (by omega))
theorem ltS_le_trans {a b c : ByteArray} (h : ltS b a = false) (k : ltS b c = true) : ltS a c = true := by
  rcases ltS_total h with rfl | h1
  · exact k
  · exact ltS_trans h1 k
def keyOkB (x : CellM) : Bool := Cp.okB x.f0.f0 x.f0.f1 x.f0.f2
def valOkB (x : CellM) : Bool := decide (x.f1.length ≤ 256) && !(x.f2 && decide (0 < x.f1.length))
def putAll (l : List CellM) : List CellM := l.foldl putF []
def ofK (a b : ByteArray) (l : List CellM) : Int :=
  if rightT a b = false then 1 else if l.any (fun x => !keyOkB x) then 5 else if l.any (fun x => !insT a b x.f0.f0) then 8 else if l.any (fun x => !valOkB x) then 1
  else if (putAll l).length ≠ l.length then 1 else if manyB l then 4 else if 32 < l.length then 9 else 0
def TimeOk (x : CellM) : Prop := 0 ≤ x.f0.f3 ∧ x.f0.f3 < 18446744073709551616
theorem okC_of {x : CellM} (h1 : keyOkB x = true) (h2 : valOkB x = true) (ht : TimeOk x) : OkC x := by
  unfold valOkB at h2
  rw [Bool.and_eq_true] at h2
  refine ⟨h1, ht.1, ht.2, of_decide_eq_true h2.1, fun hg => ?_⟩
  have h3 := h2.2
  rw [hg] at h3
  cases hf : x.f1 with
  | nil => rfl
  | cons a r => rw [hf] at h3; simp at h3
theorem okC_back {x : CellM} (h : OkC x) : keyOkB x = true ∧ valOkB x = true := by
  refine ⟨h.k, ?_⟩
  unfold valOkB
  rw [Bool.and_eq_true]
  refine ⟨decide_eq_true h.v, ?_⟩
  cases hg : x.f2 with
  | false => simp
  | true => rw [h.g hg]; simp
theorem foldl_put_ok : ∀ (l cs : List CellM), OkL cs → (∀ x ∈ l, OkC x) → OkL (l.foldl putF cs)
  | [], cs, h, _ => h
  | x :: l, cs, h, hl => foldl_put_ok l (putF cs x) (h.put (hl x (by simp))) (fun y hy => hl y (by simp [hy]))
theorem foldl_put_len : ∀ (l cs : List CellM), (l.foldl putF cs).length ≤ cs.length + l.length
  | [], cs => by simp
  | x :: l, cs => by
    have h1 := foldl_put_len l (putF cs x)
    have h2 := putF_len cs x
    rw [List.foldl_cons, List.length_cons]
    omega
theorem putF_last {cs : List CellM} {x : CellM} (h : ∀ y ∈ cs, cmpK y.f0 x.f0 < 0) : putF cs x = cs ++ [x] := by
  unfold putF
  rw [filt_all (fun y hy => decide_eq_true (h y hy)), filt_none (fun y hy => decide_eq_false (by have h1 := h y hy; have h2 := cmpK_swap x.f0 y.f0; omega))]
theorem foldl_put_sorted : ∀ (l cs : List CellM), SortedC (cs ++ l) → l.foldl putF cs = cs ++ l
  | [], cs, _ => by simp
  | x :: l, cs, h => by
    have h1 : ∀ y ∈ cs, cmpK y.f0 x.f0 < 0 := fun y hy => (List.pairwise_append.1 h).2.2 y hy x (by simp)
    have e : cs ++ x :: l = (cs ++ [x]) ++ l := by simp
    rw [List.foldl_cons, putF_last h1, e]
    exact foldl_put_sorted l (cs ++ [x]) (by rw [← e]; exact h)
theorem manyB_sub {l l' : List CellM} (h : l'.Sublist l) (hl : manyB l = false) : manyB l' = false := by
  cases hb : manyB l' with
  | false => rfl
  | true =>
    obtain ⟨x, hx, h2⟩ := List.any_eq_true.1 hb
    have h3 : (colC x.f0 l').length ≤ (colC x.f0 l).length := (h.filter _).length_le
    have h4 := of_decide_eq_true h2
    have : manyB l = true := List.any_eq_true.2 ⟨x, h.subset hx, decide_eq_true (by omega)⟩
    rw [hl] at this
    cases this
theorem putAll_sorted {l : List CellM} (h : SortedC l) : putAll l = l := foldl_put_sorted l [] h
structure TabL (a b : ByteArray) (cs : List CellM) : Prop where
  ok : OkL cs
  rt : rightT a b = true
  ins : ∀ x ∈ cs, insT a b x.f0.f0 = true
  col : manyB cs = false
  len : cs.length ≤ 32
theorem any_false {l : List CellM} {p : CellM → Bool} (h : ∀ x ∈ l, p x = false) : l.any p = false := List.any_eq_false.2 fun x hx => by rw [h x hx]; simp
theorem TabL.any {a b : ByteArray} {cs : List CellM} (h : OkL cs) (hi : ∀ x ∈ cs, insT a b x.f0.f0 = true) (hr : rightT a b = true) (hm : manyB cs = false) : ofK a b cs = if 32 < cs.length then 9 else 0 := by
  unfold ofK
  rw [if_neg (by rw [hr]; simp), if_neg (by rw [any_false (fun x hx => by rw [(okC_back (h.ok x hx)).1]; rfl)]; simp), if_neg (by rw [any_false (fun x hx => by rw [hi x hx]; rfl)]; simp), if_neg (by rw [any_false (fun x hx => by rw [(okC_back (h.ok x hx)).2]; rfl)]; simp), if_neg (by rw [putAll_sorted h.so]; simp), if_neg (by rw [hm]; simp)]
theorem TabL.back {a b : ByteArray} {cs : List CellM} (h : TabL a b cs) : ofK a b cs = 0 ∧ putAll cs = cs := by
  refine ⟨?_, putAll_sorted h.ok.so⟩
  rw [TabL.any h.ok h.ins h.rt h.col, if_neg (by have := h.len; omega)]
def loC (s : ByteArray) (cs : List CellM) : List CellM := cs.filter fun x => ltS x.f0.f0 s
def hiC (s : ByteArray) (cs : List CellM) : List CellM := cs.filter fun x => !ltS x.f0.f0 s
end Go.Proofs.YtpckachmleonlaaGreatDoor
end
