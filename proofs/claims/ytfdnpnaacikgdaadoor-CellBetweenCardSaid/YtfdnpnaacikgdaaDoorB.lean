/- Laws of no program: copy onto a row of whatever element size; what two splices leave. -/
import Derived.Test.YtfdnpnaacikgdaaDoorA
import Derived.Lib.Overlaps
import Derived.Lib.AppendZerosOnto
import Derived.Laws.CopyOwn
import Derived.Laws.Externs
import Derived.Laws.IdiomCopy
/- Laws of no program: copy onto a row, whatever the elements' size; what an insertion leaves. -/
set_option linter.unusedVariables false
set_option linter.unusedSimpArgs false
namespace Go.Proofs.YtfdnpnaacikgdaaDoor
open Go.RowKit Go.Proofs.YtfdnpnaacikgdaaDoorW.PrintWords

section
variable {P : Program}
/-- copy(d, s), d a stretch of a block that is plain memory. -/
theorem run_copy_sized (w : World) (dT sT ty e : TypeId) (size : Nat) (hu : P.underlying dT = some (.slice e)) (hsz : (P.info? e).map (·.size) = some size)
    (g off dLen dCap : Nat) (ad : Addr) (sLen sCap : Nat) (cs cur : List Value) (t : TypeId) (hg : w.heap[g]? = some (.cells cur.toArray t (0, 0))) (hn : cs.length = Nat.min sLen dLen * size)
    (hsrc : ∀ j v, cs[j]? = some v → w.cell? (ad.add j) = some v) (hfit : off + cs.length ≤ cur.length) (h1 : ∀ v ∈ cs, v.oneCell' = true) :
    (Builtin.copy_ #[dT, sT] ty #[.slice (some ⟨g, off, none⟩) dLen dCap, .slice (some ad) sLen sCap]).run P w = .ok (goInt (Nat.min sLen dLen)) (w.setCells g off cs) := by
  obtain ⟨i0, hi, hs⟩ := Option.map_eq_some_iff.1 hsz
  have hc := run_firstCells_some (P := P) w i0.size (Nat.min sLen dLen) ad sLen sCap cs (by rw [hs]; exact hn) hsrc
  have hst := run_storeCells_cells (P := P) g off cs 0 w (fun j hj => by rw [cell_of_row w g _ _ t (0, 0) hg]; simp; omega) (fun j _ => blk_frozen hg _) h1
  simp only [Nat.add_zero] at hst
  simp [Builtin.copy_, run_underlying hu, Builtin.lenOf, sizeOf, typeInfo, hi, hc, hst]
theorem run_copy_none_sized (w : World) (dT sT ty e : TypeId) (size : Nat) (hu : P.underlying dT = some (.slice e)) (hsz : (P.info? e).map (·.size) = some size)
    (dp : Option Addr) (dLen dCap : Nat) (sp : Option Addr) (sLen sCap : Nat) (h0 : Nat.min sLen dLen = 0) :
    (Builtin.copy_ #[dT, sT] ty #[.slice dp dLen dCap, .slice sp sLen sCap]).run P w = .ok (goInt 0) w := by
  obtain ⟨i0, hi, hs⟩ := Option.map_eq_some_iff.1 hsz
  have hc : (Builtin.firstCells i0.size 0 (.slice sp sLen sCap)).run P w = .ok #[] w := by
    cases sp with
    | none => simp [Builtin.firstCells]
    | some ad => exact run_firstCells_some (P := P) w i0.size 0 ad sLen sCap [] (by simp) (by simp)
  cases dp with
  | none => simp [Builtin.copy_, run_underlying hu, Builtin.lenOf, sizeOf, typeInfo, hi, h0, hc]
  | some a => simp [Builtin.copy_, run_underlying hu, Builtin.lenOf, sizeOf, typeInfo, hi, h0, hc, storeCells]

theorem wp_copy_run (w : World) {o : Oper} {a : Act} {K : Act → World → Prop} {Q : Exit → Act → World → Prop} (d s : Operand) (t t' : TypeId)
    (ho : o.op = .call { callee := .builtin .copy, args := #[d, s], argTypes := #[t, t'] }) (v u : Value) (hd : a.eval d = v) (hs : a.eval s = u) {v' : Value} {w' : World}
    (hr : (Builtin.copy_ #[t, t'] o.type #[v, u]).run P w = .ok v' w') (h : K (a.put o.dst v') w') : o.wp P a w K Q := by
  unfold Oper.wp execOp
  simp only [ho, resolve, invoke, builtin, Sem.run_bind, Sem.run_pure, Result.andThen_ok, List.map_toArray, List.map_cons, List.map_nil, hd, hs, hr]
  exact h
theorem wpList_copy_run (w : World) {ops : Array Oper} {rest : List Oper} {o : Oper} {a : Act} {Q : Exit → Act → World → Prop} (hgd : o.guard = none) (d s : Operand) (t t' : TypeId)
    (ho : o.op = .call { callee := .builtin .copy, args := #[d, s], argTypes := #[t, t'] }) (v u : Value) (hd : a.eval d = v) (hs : a.eval s = u) {v' : Value} {w' : World}
    (hr : (Builtin.copy_ #[t, t'] o.type #[v, u]).run P w = .ok v' w') (h : wpList P ops Q rest (a.put o.dst v') w') : wpList P ops Q (o :: rest) a w :=
  wpList_plain hgd fun _ hK => wp_copy_run w d s t t' ho v u hd hs hr (hK _ _ h)
end

/-- What setCells leaves of the row and of all else. -/
theorem setCells_blk {w : World} {g off : Nat} {cs cur : List Value} {t : TypeId} (hg : w.heap[g]? = some (.cells cur.toArray t (0, 0))) (hfit : off + cs.length ≤ cur.length) :
    (w.setCells g off cs).heap[g]? = some (.cells (splice cur off cs).toArray t (0, 0)) := by
  obtain ⟨cur', h1, _, h3⟩ := setCells_row cs off w cur.toArray hg (by simpa using hfit)
  rw [h1]
  congr 2
  apply Array.ext'
  rw [h3]
  simp [splice]
theorem setCells_below {B : Nat} {w0 w : World} {g off : Nat} {cs : List Value} (hb : Below B w0 w) (hB : B ≤ g) : Below B w0 (w.setCells g off cs) := by
  obtain ⟨s1, s2, s3, s4⟩ := setCells_same g cs off w
  exact hb.trans ⟨s1, s2, s3, by rw [s4]; exact Nat.le_refl _, fun k hk => setCells_far cs off k (by omega)⟩

theorem splice_take {α : Type} (cur ys : List α) (a m n s : Nat) (h1 : ys.length = m) (h2 : a ≤ n) (h3 : n + m ≤ cur.length) (hs : s = n + m) :
    (splice (splice cur (a + m) ((cur.take n).drop a)) a ys).take s = cur.take a ++ ys ++ (cur.take n).drop a := by
  subst hs
  have e1 : ((cur.take n).drop a).length = n - a := by simp; omega
  apply List.ext_getElem?
  intro i
  unfold splice
  rw [List.getElem?_take]
  by_cases hi : i < n + m
  · rw [if_pos hi]
    by_cases h4 : i < a
    · rw [List.getElem?_append_left (by simp; omega), List.append_assoc, List.getElem?_append_left (by simp; omega)]
      simp [List.getElem?_take, h4, List.getElem?_append, show i < a + m by omega]
      omega
    · by_cases h5 : i < a + m
      · rw [List.getElem?_append_right (by simp; omega), List.getElem?_append_left (by simp; omega), List.append_assoc, List.getElem?_append_right (by simp; omega), List.getElem?_append_left (by simp; omega)]
        congr 1
        simp
        omega
      · rw [List.getElem?_append_right (by simp; omega), List.getElem?_append_right (by simp; omega), List.getElem?_drop, List.getElem?_append_right (by simp; omega), List.getElem?_append_left (by simp; omega), List.getElem?_append_right (by simp; omega)]
        congr 1
        simp
        omega
  · rw [if_neg hi, List.getElem?_eq_none (by simp; omega)]
end Go.Proofs.YtfdnpnaacikgdaaDoor
