/- Words and walks for Split and Tablet: texts of these sessions, and of the kit's print, cut down to what is used (Ca Cb Cc Cd Ce). -/
import Derived.Test.YtpckachmleonlaaGreatDoorProg
import Derived.WalkKit
import Derived.WalkSpells
import Derived.WalkLawsBesides
import Derived.Lib.Hide
import Derived.Deep.QuietTactic
import Derived.BigQuiet
import Derived.Deep.LoopGhost
import Derived.Deep.DeepCutAuto
import Derived.StillTailTactics
import Derived.IntWalk
import Derived.Lib.BytesEntry
import Derived.Laws.Externs
import Derived.Shelf.Bytes.SlCountOne
import Derived.Test.YtpckachmleonlaaGreatDoorCv1
import Derived.Lib.Overlaps
import Derived.Lib.AppendZerosOnto
import Derived.Laws.CopyOwn
import Derived.Laws.IdiomCopy
import Derived.Deep.RegionHeld3
import Derived.Laws.MakeOwn
section
set_option linter.unusedVariables false
set_option linter.unusedSimpArgs false
namespace Go.Proofs.YtpckachmleonlaaGreatDoor.Cp
open Go.RowKit Go.Proofs.YtpckachmleonlaaGreatDoorW.PrintWords
theorem dt {p : Prop} [Decidable p] (h : p) : decide p = true := decide_eq_true h
theorem df {p : Prop} [Decidable p] (h : ¬ p) : decide p = false := decide_eq_false h
def u8 (b : UInt8) : Value := .int .u8 (b.toNat : Int)
def BsAt (w : World) (b o : Nat) (bs : List UInt8) : Prop := ∀ i, i < bs.length → w.cell? ⟨b, o + i, none⟩ = some (.int .u8 ((bs.getD i 0).toNat : Int))
def nums (bs : List UInt8) : List Int := bs.map fun b => (b.toNat : Int)
theorem nums_length (bs : List UInt8) : (nums bs).length = bs.length := by simp [nums]
theorem bytesOf_nums (bs : List UInt8) : Lib.bytesOf (nums bs) = bs := by
  unfold Lib.bytesOf nums
  rw [List.map_map]
  conv => rhs; rw [← List.map_id bs]
  apply List.map_congr_left
  intro b _
  simp
theorem nums_getD (bs : List UInt8) (i : Nat) (h : i < bs.length) : (nums bs).getD i 0 = ((bs.getD i 0).toNat : Int) := by
  simp [nums, List.getD_eq_getElem?_getD, h]
theorem BsAt.nums {w : World} {b o : Nat} {bs : List UInt8} (h : BsAt w b o bs) : ∀ i, i < bs.length → w.cell? ⟨b, o + i, none⟩ = some (.int .u8 ((nums bs).getD i 0)) := fun i hi => by
  rw [nums_getD bs i hi]
  exact h i hi
set_option maxHeartbeats 1000000 in
set_option maxRecDepth 100000 in
theorem indexByte_any (b o n c : Nat) (bs : List UInt8) (v : UInt8) (w : World) (hn : bs.length = n) (h : BsAt w b o bs) :
    Calls Tryz.prog 184 #[.slice (some ⟨b, o, none⟩) n c, .int .u8 (v.toNat : Int)] w fun e w' => e = .returned (.int .i64 (Lib.indexByte bs v)) ∧ w' = w := by
  subst hn
  have hx := Lib.run_indexByteSlice (P := Tryz.prog) w b o bs.length c (nums bs) (nums_length bs) h.nums (v.toNat : Int)
  rw [bytesOf_nums] at hx
  have hv : ((v.toNat : Int)).toNat.toUInt8 = v := by simp
  rw [hv] at hx
  have HX := zAa.mk hx
  clear hx h
  go_enter Tryz.func184, Tryz.ntmps184
  go_wp2
  rw [run_callFunc_extern Tryz.func190 (by kernel_rfl) (by kernel_rfl) (by kernel_rfl) (e := Extern.BytealgIndexByte.indexByte) (by kernel_rfl), HX.out]
  simp only [Result.andThen]
  rw [Oper.upon_value]
  go_wp2
  go_ret
  exact ⟨rfl, rfl⟩
set_option maxHeartbeats 1000000 in
set_option maxRecDepth 100000 in
theorem index1_any (b o n c sb : Nat) (bs : List UInt8) (v : UInt8) (w : World) (hn : bs.length = n) (h : BsAt w b o bs) (hs : BsAt w sb 0 [v]) :
    Calls Tryz.prog 178 #[.slice (some ⟨b, o, none⟩) n c, .slice (some ⟨sb, 0, none⟩) 1 1] w fun e w' => e = .returned (.int .i64 (Lib.indexByte bs v)) ∧ w' = w := by
  have H := zAa.mk h
  have c0 : w.cell? ⟨sb, 0, none⟩ = some (.int .u8 (v.toNat : Int)) := hs 0 (by simp)
  clear h hs
  go_enter Tryz.func178, Tryz.ntmps178
  go_wp2_with (go_at_call 184; refine (indexByte_any b o n c bs v _ hn H.out).mono ?_; rintro e w' ⟨rfl, rfl⟩)
  go_ret
  exact ⟨rfl, rfl⟩
set_option maxHeartbeats 1000000 in
set_option maxRecDepth 100000 in
theorem count1_any (b o n c sb : Nat) (bs : List UInt8) (v : UInt8) (w : World) (hn : bs.length = n) (h : BsAt w b o bs) (hs : BsAt w sb 0 [v]) :
    Calls Tryz.prog 177 #[.slice (some ⟨b, o, none⟩) n c, .slice (some ⟨sb, 0, none⟩) 1 1] w fun e w' => e = .returned (.int .i64 (bs.count v)) ∧ w' = w := by
  subst hn
  have hx := Lib.run_countSlice (P := Tryz.prog) w b o bs.length c (nums bs) (nums_length bs) h.nums (v.toNat : Int)
  rw [bytesOf_nums] at hx
  have hv : ((v.toNat : Int)).toNat.toUInt8 = v := by simp
  rw [hv] at hx
  have HX := zAa.mk hx
  have c0 : w.cell? ⟨sb, 0, none⟩ = some (.int .u8 (v.toNat : Int)) := hs 0 (by simp)
  clear hx h hs
  go_enter Tryz.func177, Tryz.ntmps177
  go_wp2
  rw [run_callFunc_extern Tryz.func183 (by kernel_rfl) (by kernel_rfl) (by kernel_rfl) (e := Extern.BytealgCount.count) (by kernel_rfl), HX.out]
  simp only [Result.andThen]
  rw [Oper.upon_value]
  go_wp2
  go_ret
  exact ⟨rfl, rfl⟩
end Go.Proofs.YtpckachmleonlaaGreatDoor.Cp
end
section
set_option linter.unusedVariables false
set_option linter.unusedSimpArgs false
namespace Go.Proofs.YtpckachmleonlaaGreatDoor.Cp
open Go.RowKit Go.Proofs.YtpckachmleonlaaGreatDoorW.PrintWords
section
variable {P : Program}
theorem zBi (w : World) (dT sT ty e : TypeId) (size : Nat) (hu : P.underlying dT = some (.slice e)) (hsz : (P.info? e).map (·.size) = some size)
    (g off dLen dCap : Nat) (ad : Addr) (sLen sCap : Nat) (cs cur : List Value) (t : TypeId) (hg : w.heap[g]? = some (.cells cur.toArray t (0, 0))) (hn : cs.length = Nat.min sLen dLen * size)
    (hsrc : ∀ j v, cs[j]? = some v → w.cell? (ad.add j) = some v) (hfit : off + cs.length ≤ cur.length) (h1 : ∀ v ∈ cs, v.oneCell' = true) :
    (Builtin.copy_ #[dT, sT] ty #[.slice (some ⟨g, off, none⟩) dLen dCap, .slice (some ad) sLen sCap]).run P w = .ok (goInt (Nat.min sLen dLen)) (w.setCells g off cs) := by
  obtain ⟨i0, hi, hs⟩ := Option.map_eq_some_iff.1 hsz
  have hc := run_firstCells_some (P := P) w i0.size (Nat.min sLen dLen) ad sLen sCap cs (by rw [hs]; exact hn) hsrc
  have hst := run_storeCells_cells (P := P) g off cs 0 w (fun j hj => by rw [cell_of_row w g _ _ t (0, 0) hg]; simp; omega) (fun j _ => zAd hg _) h1
  simp only [Nat.add_zero] at hst
  simp [Builtin.copy_, run_underlying hu, Builtin.lenOf, sizeOf, typeInfo, hi, hc, hst]
theorem run_copy_none_sized (w : World) (dT sT ty e : TypeId) (size : Nat) (hu : P.underlying dT = some (.slice e)) (hsz : (P.info? e).map (·.size) = some size)
    (dp : Option Addr) (dLen dCap : Nat) (sp : Option Addr) (sLen sCap : Nat) (h0 : Nat.min sLen dLen = 0) :
    (Builtin.copy_ #[dT, sT] ty #[.slice dp dLen dCap, .slice sp sLen sCap]).run P w = .ok (goInt 0) w := by
  obtain ⟨i0, hi, hs⟩ := Option.map_eq_some_iff.1 hsz
  have hc : (Builtin.firstCells i0.size 0 (.slice sp sLen sCap)).run P w = .ok #[] w := by
    cases sp with
    | none => simp [Builtin.firstCells]
    | some ad => exact run_firstCells_some (P := P) w i0.size 0 ad sLen sCap [] (by simp) (by simp)
  cases dp with
  | none => simp [Builtin.copy_, run_underlying hu, Builtin.lenOf, sizeOf, typeInfo, hi, h0, hc]
  | some a => simp [Builtin.copy_, run_underlying hu, Builtin.lenOf, sizeOf, typeInfo, hi, h0, hc, storeCells]
theorem wp_copy_run (w : World) {o : Oper} {a : Act} {K : Act → World → Prop} {Q : Exit → Act → World → Prop} (d s : Operand) (t t' : TypeId)
    (ho : o.op = .call { callee := .builtin .copy, args := #[d, s], argTypes := #[t, t'] }) (v u : Value) (hd : a.eval d = v) (hs : a.eval s = u) {v' : Value} {w' : World}
    (hr : (Builtin.copy_ #[t, t'] o.type #[v, u]).run P w = .ok v' w') (h : K (a.put o.dst v') w') : o.wp P a w K Q := by
  unfold Oper.wp execOp
  simp only [ho, resolve, invoke, builtin, Sem.run_bind, Sem.run_pure, Result.andThen_ok, List.map_toArray, List.map_cons, List.map_nil, hd, hs, hr]
  exact h
theorem wpList_copy_run (w : World) {ops : Array Oper} {rest : List Oper} {o : Oper} {a : Act} {Q : Exit → Act → World → Prop} (hgd : o.guard = none) (d s : Operand) (t t' : TypeId)
    (ho : o.op = .call { callee := .builtin .copy, args := #[d, s], argTypes := #[t, t'] }) (v u : Value) (hd : a.eval d = v) (hs : a.eval s = u) {v' : Value} {w' : World}
    (hr : (Builtin.copy_ #[t, t'] o.type #[v, u]).run P w = .ok v' w') (h : wpList P ops Q rest (a.put o.dst v') w') : wpList P ops Q (o :: rest) a w :=
  wpList_plain hgd fun _ hK => wp_copy_run w d s t t' ho v u hd hs hr (hK _ _ h)
end
theorem zCc {w : World} {g off : Nat} {cs cur : List Value} {t : TypeId} (hg : w.heap[g]? = some (.cells cur.toArray t (0, 0))) (hfit : off + cs.length ≤ cur.length) :
    (w.setCells g off cs).heap[g]? = some (.cells (splice cur off cs).toArray t (0, 0)) := by
  obtain ⟨cur', h1, _, h3⟩ := setCells_row cs off w cur.toArray hg (by simpa using hfit)
  rw [h1]
  congr 2
  apply Array.ext'
  rw [h3]
  simp [splice]
theorem zBk {B : Nat} {w0 w : World} {g off : Nat} {cs : List Value} (hb : Below B w0 w) (hB : B ≤ g) : Below B w0 (w.setCells g off cs) := by
  obtain ⟨s1, s2, s3, s4⟩ := setCells_same g cs off w
  exact hb.trans ⟨s1, s2, s3, by rw [s4]; exact Nat.le_refl _, fun k hk => setCells_far cs off k (by omega)⟩
end Go.Proofs.YtpckachmleonlaaGreatDoor.Cp
end
section
set_option linter.unusedVariables false
set_option linter.unusedSimpArgs false
namespace Go.Proofs.YtpckachmleonlaaGreatDoor.Cp
open Go.RowKit Go.Proofs.YtpckachmleonlaaGreatDoorW.PrintWords
def rep : List UInt8 → List UInt8
  | [] => []
  | x :: r => (if x == 0 then [0, 255] else [x]) ++ rep r
theorem rep_append (a b : List UInt8) : rep (a ++ b) = rep a ++ rep b := by
  induction a with
  | nil => rfl
  | cons x a ih => simp only [List.cons_append, rep, ih, List.append_assoc]
theorem rep_length (a : List UInt8) : (rep a).length = a.length + a.count 0 := by
  induction a with
  | nil => rfl
  | cons x a ih =>
    simp only [rep, List.length_append, ih, List.length_cons, List.count_cons]
    rcases Bool.eq_false_or_eq_true (x == 0) with h | h
    · rw [h]; simp; omega
    · rw [h]; simp; omega
theorem rep_none {a : List UInt8} (h : a.count 0 = 0) : rep a = a := by
  induction a with
  | nil => rfl
  | cons x a ih =>
    rw [List.count_cons] at h
    rcases Bool.eq_false_or_eq_true (x == 0) with h2 | h2
    · rw [h2] at h; simp at h
    · rw [h2] at h
      simp only [rep, h2]
      rw [ih (by simpa using h)]
      rfl
theorem first_zero {a : List UInt8} (h : 0 < a.count 0) : ∃ pre post, a = pre ++ 0 :: post ∧ pre.count 0 = 0 ∧ Lib.indexByte a 0 = (pre.length : Int) := by
  induction a with
  | nil => simp at h
  | cons x a ih =>
    rw [List.count_cons] at h
    rcases Bool.eq_false_or_eq_true (x == 0) with h2 | h2
    · have hx := eq_of_beq h2
      subst hx
      exact ⟨[], a, rfl, rfl, by simp [Lib.indexByte]⟩
    · rw [h2] at h
      obtain ⟨pre, post, h3, h4, h5⟩ := ih (by simpa using h)
      refine ⟨x :: pre, post, by rw [h3]; rfl, by rw [List.count_cons, h2, h4]; rfl, ?_⟩
      have h6 : ((pre.length : Int) == -1) = false := by simp
      unfold Lib.indexByte
      rw [h2, h5, h6]
      simp
def cells (bs : List UInt8) : List Value := bs.map fun b => .int .u8 (b.toNat : Int)
theorem zDg (bs : List UInt8) : (cells bs).length = bs.length := by simp [cells]
theorem cells_append (a b : List UInt8) : cells (a ++ b) = cells a ++ cells b := by simp [cells]
theorem cells_one (bs : List UInt8) : ∀ u ∈ cells bs, u.oneCell' = true := by
  intro u hu
  obtain ⟨b, _, rfl⟩ := List.mem_map.1 hu
  rfl
theorem cells_get {bs : List UInt8} {i : Nat} (h : i < bs.length) : (cells bs)[i]? = some (.int .u8 ((bs.getD i 0).toNat : Int)) := by
  simp [cells, List.getD_eq_getElem?_getD, h]
theorem BsAt.cells {w : World} {b o : Nat} {bs : List UInt8} (h : BsAt w b o bs) : ∀ j u, (cells bs)[j]? = some u → w.cell? ⟨b, o + j, none⟩ = some u := by
  intro j u hu
  have hj : j < bs.length := by
    have := (List.getElem?_eq_some_iff.1 hu).1
    rwa [zDg] at this
  rw [cells_get hj] at hu
  rw [h j hj]
  exact hu
theorem BsAt.drop {w : World} {b o : Nat} {pre bs : List UInt8} (h : BsAt w b o (pre ++ bs)) : BsAt w b (o + pre.length) bs := by
  intro i hi
  have := h (pre.length + i) (by rw [List.length_append]; omega)
  rw [List.getD_eq_getElem?_getD, List.getElem?_append_right (by omega), Nat.add_sub_cancel_left, ← List.getD_eq_getElem?_getD, ← Nat.add_assoc] at this
  exact this
theorem BsAt.take {w : World} {b o : Nat} {pre bs : List UInt8} (h : BsAt w b o (pre ++ bs)) : BsAt w b o pre := by
  intro i hi
  have := h i (by rw [List.length_append]; omega)
  rw [List.getD_eq_getElem?_getD, List.getElem?_append_left hi, ← List.getD_eq_getElem?_getD] at this
  exact this
end Go.Proofs.YtpckachmleonlaaGreatDoor.Cp
end
section
set_option linter.unusedVariables false
set_option linter.unusedSimpArgs false
namespace Go.Proofs.YtpckachmleonlaaGreatDoor.Cp
open Go.RowKit Go.Proofs.YtpckachmleonlaaGreatDoorW.PrintWords
theorem info5 : (Tryz.prog.info? 5).map (fun i => (i.zero, i.size, i.bytes)) = some (some (.int .u8 0), 1, 1) := by kernel_rfl
theorem sz5 : (Tryz.prog.info? 5).map (·.size) = some 1 := by kernel_rfl
section
variable {P : Program}
theorem copy_step (w : World) {ops : Array Oper} {o : Oper} {a : Act} {K : Act → World → Prop} {Q : Exit → Act → World → Prop} (hw : Region.wanted o (yielded ops a.tmps) = true) (d s : Operand) (t t' : TypeId)
  (ho : o.op = .call { callee := .builtin .copy, args := #[d, s], argTypes := #[t, t'] }) (v u : Value) (hd : a.eval d = v) (hs : a.eval s = u) {v' : Value} {w' : World}
  (hr : (Builtin.copy_ #[t, t'] o.type #[v, u]).run P w = .ok v' w') (h : K (a.put o.dst v') w') : if Region.wanted o (yielded ops a.tmps) = true then Oper.wp P o a w K Q else K (a.put o.dst undef) w := by
 rw [if_pos hw]
 exact wp_copy_run w d s t t' ho v u hd hs hr h
end
theorem splice_upto {α : Type} (L : List α) (off : Nat) (cs : List α) (h : off ≤ L.length) : (splice L off cs).take (off + cs.length) = L.take off ++ cs := by
 unfold splice
 rw [← List.append_assoc, List.take_left' (by rw [List.length_append, List.length_take]; omega)]
theorem BsAt.below {w w' : World} {b o : Nat} {bs : List UInt8} (h : BsAt w b o bs) (hb : Below w.heap.size w w') : BsAt w' b o bs := fun i hi => (hb.cell (World.block_lt_of_cell? w _ (h i hi))).trans (h i hi)
structure RepAt (w : World) (g : Nat) (bs : List UInt8) (tot s p k : Nat) (dn rest : List UInt8) (cur : List Value) : Prop where
 eq : bs = dn ++ rest
 hs : dn.length = s
 hk : dn.count 0 = k
 hp : (rep dn).length = p
 hg : w.heap[g]? = some (.cells cur.toArray 5 (0, 0))
 hcur : cur.length = tot
 htake : cur.take p = cells (rep dn)
theorem RepAt.bound {w : World} {g : Nat} {bs : List UInt8} {n m s p k : Nat} {dn rest : List UInt8} {cur : List Value} (h : RepAt w g bs (n + m) s p k dn rest cur) (hn : bs.length = n) (hm : bs.count 0 = m) : s + rest.length = n ∧ k + rest.count 0 = m ∧ p = s + k := by
 have e := h.eq
 subst e
 rw [List.length_append, h.hs] at hn
 rw [List.count_append, h.hk] at hm
 have := h.hp
 rw [rep_length, h.hs, h.hk] at this
 exact ⟨hn, hm, this.symm⟩
theorem RepAt.step {w : World} {g : Nat} {bs : List UInt8} {tot s p k : Nat} {dn pre post : List UInt8} {cur : List Value} (h : RepAt w g bs tot s p k dn (pre ++ 0 :: post) cur) (h0 : pre.count 0 = 0) {q : Nat} (hq : pre.length = q) (hfit : p + q + 2 ≤ tot) :
  ∃ cur', RepAt ((w.setCells g p (cells pre)).setCells g (p + q) (cells [0, 255])) g bs tot (s + q + 1) (p + q + 2) (k + 1) (dn ++ pre ++ [0]) post cur' := by
 subst hq
 have hf1 : p + (cells pre).length ≤ cur.length := by rw [zDg, h.hcur]; omega
 have h1 := zCc (cs := cells pre) h.hg hf1
 have hl1 := length_splice cur p (cells pre) hf1
 have hf2 : p + pre.length + (cells [0, 255]).length ≤ (splice cur p (cells pre)).length := by rw [hl1, h.hcur]; exact hfit
 have h2 := zCc (cs := cells [0, 255]) h1 hf2
 refine ⟨_, by rw [h.eq]; simp, by simp [h.hs]; omega, by simp [h.hk, h0], by rw [rep_append, rep_append, rep_none h0]; simp [h.hp, rep]; omega, h2, by rw [length_splice _ _ _ hf2, hl1, h.hcur], ?_⟩
 have hp2 : p ≤ cur.length := by rw [h.hcur]; omega
 have e1 := splice_upto cur p (cells pre) hp2
 have e2 := splice_upto (splice cur p (cells pre)) (p + pre.length) (cells [0, 255]) (by rw [hl1, h.hcur]; omega)
 rw [zDg] at e1
 change List.take (p + pre.length + 2) _ = _ at e2
 rw [e1] at e2
 rw [e2, h.htake, rep_append, rep_append, rep_none h0, cells_append, cells_append]
 rfl
theorem RepAt.done {w : World} {g base : Nat} {bs : List UInt8} {tot s p k q : Nat} {dn rest : List UInt8} {cur : List Value} (h : RepAt w g bs tot s p k dn rest cur) (h0 : rest.count 0 = 0) (hq : rest.length = q) (ht : p + q = tot) (hb : base ≤ g) (hm : tot ≤ maxLen) :
  (w.setCells g p (cells rest)).ownsRow base 5 1 (.slice (some ⟨g, 0, none⟩) (p + q) tot) (rep bs).length (cells (rep bs)) := by
 have hr : rep bs = rep dn ++ rest := by rw [h.eq, rep_append, rep_none h0]
 have hl : (rep bs).length = p + q := by rw [hr, List.length_append, h.hp, hq]
 have hf : p + (cells rest).length ≤ cur.length := by rw [zDg, hq, h.hcur]; omega
 rw [hl]
 refine ⟨by rw [zDg, hl, Nat.mul_one], .inr ⟨g, tot, _, rfl, hb, zCc h.hg hf, by omega, hm, ?_, ?_⟩⟩
 ·rw [List.size_toArray, length_splice _ _ _ hf, h.hcur, Nat.mul_one]
 ·rw [List.toList_toArray, Nat.mul_one, hr, cells_append, ← h.htake]
  have := splice_upto cur p (cells rest) (by rw [h.hcur]; omega)
  rwa [zDg, hq] at this
theorem RepAt.doneNil {w : World} {g base : Nat} {bs : List UInt8} {tot s p k : Nat} {dn rest : List UInt8} {cur : List Value} (h : RepAt w g bs tot s p k dn rest cur) (h0 : rest = []) (ht : p = tot) (hb : base ≤ g) (hm : tot ≤ maxLen) :
  w.ownsRow base 5 1 (.slice (some ⟨g, 0, none⟩) tot tot) (rep bs).length (cells (rep bs)) := by
 subst h0 ht
 have hr : rep bs = rep dn := by rw [h.eq, List.append_nil]
 have hl : (rep bs).length = p := by rw [hr, h.hp]
 rw [hl]
 refine ⟨by rw [zDg, hl, Nat.mul_one], .inr ⟨g, p, _, rfl, hb, h.hg, by omega, hm, ?_, ?_⟩⟩
 ·rw [List.size_toArray, h.hcur, Nat.mul_one]
 ·rw [List.toList_toArray, Nat.mul_one, hr, ← h.htake]
set_option maxHeartbeats 4000000 in
set_option maxRecDepth 100000 in
theorem replace_some (b n c ob nb : Nat) (bs : List UInt8) (w : World) (hn : bs.length = n) (hc : n ≤ c) (hl : n ≤ 1000000) (h : BsAt w b 0 bs) (ho : BsAt w ob 0 [0]) (hnw : BsAt w nb 0 [0, 255]) (h0 : bs.count 0 ≠ 0) :
  Calls Tryz.prog 173 #[.slice (some ⟨b, 0, none⟩) n c, .slice (some ⟨ob, 0, none⟩) 1 1, .slice (some ⟨nb, 0, none⟩) 2 2, .int .i64 (-1)] w fun e w' => ∃ v, e = .returned v ∧ w'.ownsRow w.heap.size 5 1 v (rep bs).length (cells (rep bs)) ∧ Below w.heap.size w w' := by
 have H := zAa.mk h
 have HO := zAa.mk ho
 have HN := zAa.mk hnw
 obtain ⟨m, hm⟩ : ∃ m, bs.count 0 = m := ⟨_, rfl⟩
 have HM := zAa.mk hm
 have hml : m ≤ n := by rw [← hm, ← hn]; exact List.count_le_length
 rw [hm] at h0
 have e0 : ((m : Int) == 0) = false := by simp; omega
 have hnn := zAa.mk hn
 obtain ⟨i0, hi0, hz0⟩ := Option.map_eq_some_iff.1 info5
 simp only [Prod.mk.injEq] at hz0
 have hmk := fun W => run_make (P := Tryz.prog) W 47 5 i0 _ Tryz.underlying47 hi0 hz0.1 .i64 .i64 ((n : Int) + m) ((n : Int) + m) (by omega) (by omega) (by rw [hz0.2.2]; omega) (by omega)
 have hto : ((n : Int) + (m : Int)).toNat = n + m := by omega
 simp only [hz0.2.1, hto] at hmk
 have HMK := zAa.mk hmk
 clear h ho hnw hm hn hi0 hz0 hmk hto
 go_enter Tryz.func173, Tryz.ntmps173
 go_wp2_with (go_at_call 177; refine (count1_any b 0 n c ob bs 0 _ hnn.out H.out HO.out).mono ?_; rintro e w1 ⟨rfl, hw1⟩; rw [HM.out]; subst hw1)
 rw [HMK.out]
 simp only [Result.andThen]
 rw [Oper.upon_value]
 obtain ⟨cur0, hcur0⟩ : ∃ cur0 : List Value, madeCells (Value.int .u8 0).cells ((n + m) * 1) = cur0.toArray := ⟨_, rfl⟩
 have hcl0 : cur0.length = n + m := by
  have := congrArg Array.size hcur0
  rw [size_madeCells] at this
  simpa using this.symm
 rw [hcur0]
 have HS0 : zAa (RepAt (w1.alloc (.cells cur0.toArray 5)) w1.heap.size bs (n + m) 0 0 0 [] bs cur0) := ⟨⟨rfl, rfl, rfl, rfl, heap_alloc_new w1 _, hcl0, by simp [rep, cells]⟩⟩
 have HB0 : zAa (Below w1.heap.size w1 (w1.alloc (.cells cur0.toArray 5))) := ⟨(Below.refl _ _).alloc (Nat.le_refl _) _⟩
 generalize w1.alloc (.cells cur0.toArray 5) = w2 at HS0 HB0 ⊢
 clear hcur0 hcl0
 have HG : zAa (w1.heap.size = w1.heap.size) := ⟨rfl⟩
 obtain ⟨g, hg⟩ : ∃ g, w1.heap.size = g := ⟨_, rfl⟩
 have HGG := zAa.mk hg
 rw [hg] at HS0 ⊢
 go_wp2_with fail
 go_loopw [11, 12, 13, 49] (fun vp vs vj vk w' => ∃ (s p k : Nat) (dn rest : List UInt8) (cur : List Value), s ≤ n ∧ k ≤ m ∧ p ≤ n + m ∧ vp = .int .i64 p ∧ vs = .int .i64 s ∧ vk = .int .i64 k ∧ zAa (RepAt w' g bs (n + m) s p k dn rest cur) ∧ zAa (Below w1.heap.size w1 w')) (fun _ _ _ vk _ => m - (intOf vk).toNat)
 case atStart => exact ⟨0, 0, 0, [], bs, cur0, by omega, by omega, by omega, rfl, rfl, rfl, HS0, HB0⟩
 case round =>
  obtain ⟨s, p, k, dn, rest, cur, hsn, hkm, hpt, rfl, rfl, rfl, HS, HB⟩ := hrel
  obtain ⟨t1, t2, t3⟩ := HS.out.bound hnn.out HM.out
  by_cases hlt : k < m
  ·have h4 : (k : Int) < (m : Int) := by omega
   have h4' : decide (k < m) = true := dt hlt
   obtain ⟨pre, post, hr, hpre, hix⟩ := first_zero (a := rest) (by omega)
   obtain ⟨q, hq⟩ : ∃ q, pre.length = q := ⟨_, rfl⟩
   have hrl : rest.length = q + 1 + post.length := by rw [hr, List.length_append, List.length_cons, hq]; omega
   rw [hq] at hix
   have hrc : rest.count 0 = 1 + post.count 0 := by rw [hr, List.count_append, hpre, List.count_cons]; simp; omega
   have b1 : s + q + 1 ≤ n := by omega
   have b2 : p + q + 2 ≤ n + m := by omega
   have HIX := zAa.mk hix
   have HRL : zAa (rest.length = n - s) := ⟨by omega⟩
   have HBS : zAa (BsAt wr b s rest) := ⟨by
    have h9 := H.out.below HB.out
    rw [HS.out.eq] at h9
    have h8 := h9.drop
    rwa [HS.out.hs, Nat.zero_add] at h8⟩
   have HOB : zAa (BsAt wr ob 0 [0]) := ⟨HO.out.below HB.out⟩
   have f1 : (s : Int) ≤ (n : Int) := by omega
   have f2 : (n : Int) ≤ (c : Int) := by omega
   have f3 : (s : Int) ≤ (c : Int) := by omega
   have f4 : ¬ c - s = 0 := by omega
   have f5 : (s : Int) ≤ (s : Int) + (q : Int) := by omega
   have f6 : (s : Int) + (q : Int) ≤ (c : Int) := by omega
   have f7 : ((s : Int) + (q : Int)).toNat = s + q := by omega
   have f8 : IntKind.i64.wrap ((s : Int) + (q : Int)) = (s : Int) + (q : Int) := by rw [IntKind.wrap_i64]; omega
   have f9 : (0 : Int) ≤ (s : Int) + (q : Int) := by omega
   have g1 : (p : Int) ≤ (n : Int) + (m : Int) := by omega
   have g2 : ¬ n + m - p = 0 := by omega
   have g3 : IntKind.i64.wrap ((p : Int) + (q : Int)) = (p : Int) + (q : Int) := by rw [IntKind.wrap_i64]; omega
   have g4 : (0 : Int) ≤ (p : Int) + (q : Int) := by omega
   have g5 : ((p : Int) + (q : Int)).toNat = p + q := by omega
   have g6 : (p : Int) + (q : Int) ≤ (n : Int) + (m : Int) := by omega
   have g7 : ¬ n + m - (p + q) = 0 := by omega
   have g8 : ¬ n + m = p := by omega
   have g9 : ¬ c = s := by omega
   have g10 : ¬ n + m = p + q := by omega
   have HRR := zAa.mk hr
   have HPR := zAa.mk hpre
   have HQ := zAa.mk hq
   clear t1 t2 t3 hr hpre hix hrl hrc hq
   go_wp2_with (go_at_call 178; refine (index1_any b s (n - s) _ ob rest 0 _ HRL.out HBS.out HOB.out).mono ?_; rintro e w3 ⟨rfl, hw3⟩; rw [HIX.out]; subst hw3)
   have HC1 : zAa (∀ ty dc sc, (Builtin.copy_ #[47, 47] ty #[.slice (some ⟨g, p, none⟩) (n + m - p) dc, .slice (some ⟨b, s, none⟩) q sc]).run Tryz.prog w3.drew = .ok (.int .i64 q) (w3.drew.setCells g p (cells pre))) := ⟨fun ty dc sc => by
    have hmin : Nat.min q (n + m - p) = q := Nat.min_eq_left (by omega)
    have hpr : BsAt w3 b s pre := by have h9 := HBS.out; rw [HRR.out] at h9; exact h9.take
    have hx := zBi (P := Tryz.prog) w3.drew 47 47 ty 5 1 Tryz.underlying47 sz5 g p (n + m - p) dc ⟨b, s, none⟩ q sc (cells pre) cur 5 HS.out.hg (by rw [zDg, HQ.out, hmin, Nat.mul_one]) (fun j v hj => by rw [show (⟨b, s, none⟩ : Addr).add j = ⟨b, s + j, none⟩ by unfold Addr.add; split <;> simp_all]; exact hpr.cells j v hj) (by rw [zDg, HQ.out, HS.out.hcur]; omega) (cells_one pre)
    rw [hmin] at hx
    exact hx⟩
   go_region_held3 (fun w' => True) (trivial)
    ((refine copy_step (v' := .int .i64 q) (w' := w3.drew.setCells g p (cells pre)) _ ?hw (.tmp 61) (.tmp 65) 47 47 ?ho (.slice (some ⟨g, p, none⟩) (n + m - p) (n + m - p)) (.slice (some ⟨b, s, none⟩) q (c - s)) ?hd ?hs2 ?hr ?_; (case hw => rfl); (case ho => rfl); (case hd => rfl); (case hs2 => rfl); (case hr => exact HC1.out _ _ _)))
   obtain ⟨W1, hW1⟩ : ∃ W1, W1 = w3.drew.setCells g p (cells pre) := ⟨_, rfl⟩
   rw [← hW1]
   have HW1 := zAa.mk hW1
   have hf1 : p + (cells pre).length ≤ cur.length := by rw [zDg, HQ.out, HS.out.hcur]; omega
   have HG1 : zAa (W1.heap[g]? = some (.cells (splice cur p (cells pre)).toArray 5 (0, 0))) := ⟨by rw [HW1.out]; exact zCc (w := w3.drew) HS.out.hg hf1⟩
   have HL1 : zAa ((splice cur p (cells pre)).length = n + m) := ⟨by rw [length_splice _ _ _ hf1, HS.out.hcur]⟩
   have HBW1 : zAa (Below w1.heap.size w1 W1) := ⟨by rw [HW1.out]; exact zBk HB.out.drew (by rw [HGG.out]; exact Nat.le_refl _)⟩
   have HC2 : zAa (∀ ty dc, (Builtin.copy_ #[47, 47] ty #[.slice (some ⟨g, p + q, none⟩) (n + m - (p + q)) dc, .slice (some ⟨nb, 0, none⟩) 2 2]).run Tryz.prog W1 = .ok (.int .i64 2) (W1.setCells g (p + q) (cells [0, 255]))) := ⟨fun ty dc => by
    have hmin : Nat.min 2 (n + m - (p + q)) = 2 := Nat.min_eq_left (by omega)
    have hx := zBi (P := Tryz.prog) W1 47 47 ty 5 1 Tryz.underlying47 sz5 g (p + q) (n + m - (p + q)) dc ⟨nb, 0, none⟩ 2 2 (cells [0, 255]) _ 5 HG1.out (by rw [hmin]; rfl) (fun j v hj => by rw [show (⟨nb, 0, none⟩ : Addr).add j = ⟨nb, 0 + j, none⟩ by unfold Addr.add; split <;> simp_all]; exact (HN.out.below HBW1.out).cells j v hj) (by rw [HL1.out]; exact b2) (cells_one _)
    rw [hmin] at hx
    exact hx⟩
   clear hW1 hf1
   go_wp2_with (with_reducible refine wpList_copy_run W1 rfl (.tmp 71) (.tmp 72) 47 47 rfl _ _ rfl rfl (HC2.out _ _) ?_)
   go_roundw
   case rel =>
    have hst := (show RepAt w3.drew g bs (n + m) s p k dn (pre ++ 0 :: post) cur from HRR.out ▸ ⟨HS.out.eq, HS.out.hs, HS.out.hk, HS.out.hp, HS.out.hg, HS.out.hcur, HS.out.htake⟩).step HPR.out HQ.out b2
    rw [← HW1.out] at hst
    obtain ⟨cur', h9⟩ := hst
    exact ⟨s + q + 1, p + q + 2, k + 1, _, _, cur', by omega, by omega, by omega, by go_num, by go_num, by go_num, ⟨h9⟩, ⟨zBk HBW1.out (by rw [HGG.out]; exact Nat.le_refl _)⟩⟩
   case measure => simp [intOf]; omega
  ·obtain rfl : k = m := by omega
   have h4' : decide (k < k) = false := df (by omega)
   have hrc : rest.count 0 = 0 := by omega
   have hrl : rest.length = n - s := by omega
   have hps : p = s + k := t3
   obtain ⟨q, hq⟩ : ∃ q, rest.length = q := ⟨_, rfl⟩
   have HRC := zAa.mk hrc
   have HQ := zAa.mk hq
   have HBS : zAa (BsAt wr b s rest) := ⟨by
    have h9 := H.out.below HB.out
    rw [HS.out.eq] at h9
    have h8 := h9.drop
    rwa [HS.out.hs, Nat.zero_add] at h8⟩
   have f1 : (s : Int) ≤ (n : Int) := by omega
   have f2 : (n : Int) ≤ (c : Int) := by omega
   have f3 : (s : Int) ≤ (c : Int) := by omega
   have g1 : (p : Int) ≤ (n : Int) + (k : Int) := by omega
   rcases Nat.eq_zero_or_pos q with hq0 | hq0
   ·have HC0 : zAa (∀ W ty dp dc sp sc, (Builtin.copy_ #[47, 47] ty #[.slice dp 0 dc, .slice sp 0 sc]).run Tryz.prog W = .ok (.int .i64 0) W) := ⟨fun W ty dp dc sp sc => run_copy_none_sized (P := Tryz.prog) W 47 47 ty 5 1 Tryz.underlying47 sz5 dp 0 dc sp 0 sc rfl⟩
    obtain rfl : n = s := by omega
    obtain rfl : p = n + k := by omega
    have HR0 : zAa (rest = []) := ⟨List.eq_nil_of_length_eq_zero (by omega)⟩
    have g3 : IntKind.i64.wrap ((n : Int) + (k : Int) + 0) = (n : Int) + (k : Int) := by rw [IntKind.wrap_i64]; omega
    have f9 : (0 : Int) ≤ (n : Int) + (k : Int) := by omega
    have f10 : ((n : Int) + (k : Int)).toNat = n + k := by omega
    clear t1 t2 t3 hrc hrl hps hq hlt hq0
    rcases Nat.lt_or_ge n c with hcn | hcn
    ·have f4 : ¬ c = n := by omega
     go_wp2_with fail
     go_region_held3 (fun w' => True) (trivial)
      ((refine copy_step (v' := .int .i64 0) (w' := wr.drew) _ ?hw (.tmp 123) (.tmp 126) 47 47 ?ho (.slice (some ⟨g, 0, none⟩) 0 0) (.slice (some ⟨b, n, none⟩) 0 (c - n)) ?hd ?hs2 ?hr ?_; (case hw => rfl); (case ho => rfl); (case hd => rfl); (case hs2 => rfl); (case hr => exact HC0.out _ _ _ _ _ _)))
     go_wp2_with fail
     go_ret
     exact ⟨_, rfl, RepAt.doneNil (w := wr.drew) ⟨HS.out.eq, HS.out.hs, HS.out.hk, HS.out.hp, HS.out.hg, HS.out.hcur, HS.out.htake⟩ HR0.out rfl (by rw [HGG.out]; exact Nat.le_refl _) (by unfold maxLen; omega), HB.out.drew⟩
    ·obtain rfl : n = c := by omega
     go_wp2_with fail
     go_region_held3 (fun w' => True) (trivial)
      ((refine copy_step (v' := .int .i64 0) (w' := wr.drew) _ ?hw (.tmp 123) (.tmp 126) 47 47 ?ho (.slice (some ⟨g, 0, none⟩) 0 0) (.slice (some ⟨b, 0, none⟩) 0 0) ?hd ?hs2 ?hr ?_; (case hw => rfl); (case ho => rfl); (case hd => rfl); (case hs2 => rfl); (case hr => exact HC0.out _ _ _ _ _ _)))
     go_wp2_with fail
     go_ret
     exact ⟨_, rfl, RepAt.doneNil (w := wr.drew) ⟨HS.out.eq, HS.out.hs, HS.out.hk, HS.out.hp, HS.out.hg, HS.out.hcur, HS.out.htake⟩ HR0.out rfl (by rw [HGG.out]; exact Nat.le_refl _) (by unfold maxLen; omega), HB.out.drew⟩
   ·have f4 : ¬ c = s := by omega
    have f5 : ¬ n + k = p := by omega
    have f6 : n - s = q := by omega
    have f7 : n + k - p = q := by omega
    have g3 : IntKind.i64.wrap ((p : Int) + (q : Int)) = (p : Int) + (q : Int) := by rw [IntKind.wrap_i64]; omega
    have f8 : (p : Int) + (q : Int) ≤ (n : Int) + (k : Int) := by omega
    have f9 : (0 : Int) ≤ (p : Int) + (q : Int) := by omega
    have f10 : ((p : Int) + (q : Int)).toNat = p + q := by omega
    have hpq : p + q = n + k := by omega
    have HPQ := zAa.mk hpq
    have HC1 : zAa (∀ ty dc sc, (Builtin.copy_ #[47, 47] ty #[.slice (some ⟨g, p, none⟩) q dc, .slice (some ⟨b, s, none⟩) q sc]).run Tryz.prog wr.drew = .ok (.int .i64 q) (wr.drew.setCells g p (cells rest))) := ⟨fun ty dc sc => by
     have hmin : Nat.min q q = q := Nat.min_self q
     have hx := zBi (P := Tryz.prog) wr.drew 47 47 ty 5 1 Tryz.underlying47 sz5 g p q dc ⟨b, s, none⟩ q sc (cells rest) cur 5 HS.out.hg (by rw [zDg, HQ.out, hmin, Nat.mul_one]) (fun j v hj => by rw [show (⟨b, s, none⟩ : Addr).add j = ⟨b, s + j, none⟩ by unfold Addr.add; split <;> simp_all]; exact HBS.out.cells j v hj) (by rw [zDg, HQ.out, HS.out.hcur]; omega) (cells_one rest)
     rw [hmin] at hx
     exact hx⟩
    clear t1 t2 t3 hrc hrl hps hq hlt hpq
    go_wp2_with fail
    go_region_held3 (fun w' => True) (trivial)
     ((refine copy_step (v' := .int .i64 q) (w' := wr.drew.setCells g p (cells rest)) _ ?hw (.tmp 123) (.tmp 126) 47 47 ?ho (.slice (some ⟨g, p, none⟩) q q) (.slice (some ⟨b, s, none⟩) q (c - s)) ?hd ?hs2 ?hr ?_; (case hw => rfl); (case ho => rfl); (case hd => rfl); (case hs2 => rfl); (case hr => exact HC1.out _ _ _)))
    go_wp2_with fail
    go_ret
    exact ⟨_, rfl, RepAt.done (w := wr.drew) ⟨HS.out.eq, HS.out.hs, HS.out.hk, HS.out.hp, HS.out.hg, HS.out.hcur, HS.out.htake⟩ HRC.out HQ.out HPQ.out (by rw [HGG.out]; exact Nat.le_refl _) (by unfold maxLen; omega), zBk HB.out.drew (by rw [HGG.out]; exact Nat.le_refl _)⟩
end Go.Proofs.YtpckachmleonlaaGreatDoor.Cp
end
section
set_option linter.unusedVariables false
set_option linter.unusedSimpArgs false
namespace Go.Proofs.YtpckachmleonlaaGreatDoor.Cp
open Go.RowKit Go.Proofs.YtpckachmleonlaaGreatDoorW.PrintWords
abbrev kB : Kd Int := Kd.int .u8
theorem cells_encs (bs : List UInt8) : cells bs = encs (Value.int .u8) (nums bs) := by
  unfold cells encs nums
  rw [List.map_map]
  rfl
theorem R_cells {w : World} {base e : Nat} {v : Value} {bs : List UInt8} {n : Nat} (hn : n = bs.length) (h : w.ownsRow base e 1 v n (cells bs)) : Kd.R kB e w base (fun _ => True) v (nums bs) := by
  subst hn
  refine Kd.R_of_own ?_ (fun _ _ => trivial)
  rw [nums_length, ← cells_encs]
  exact h
theorem C_bsAt {w : World} {b o : Nat} {bs : List UInt8} (h : BsAt w b o bs) (hm : bs.length ≤ 9223372036854775807) : Kd.C kB w (some ⟨b, o, none⟩) bs.length (nums bs) := by
  refine Kd.C_of_reads (d := 0) ⟨nums_length bs, hm, fun _ => ⟨_, rfl, fun j hj => ?_⟩⟩
  have := h j hj
  rw [nums_getD bs j hj]
  rw [show (⟨b, o, none⟩ : Addr).add j = ⟨b, o + j, none⟩ by unfold Addr.add; split <;> simp_all]
  exact this
theorem nums_append (a b : List UInt8) : nums (a ++ b) = nums a ++ nums b := by simp [nums]
set_option maxHeartbeats 1000000 in
set_option maxRecDepth 100000 in
theorem replace_none (b n c ob nb : Nat) (bs : List UInt8) (w : World) (hn : bs.length = n) (hc : n ≤ c) (hl : n ≤ 1000000) (h : BsAt w b 0 bs) (ho : BsAt w ob 0 [0]) (h0 : bs.count 0 = 0) :
    Calls Tryz.prog 173 #[.slice (some ⟨b, 0, none⟩) n c, .slice (some ⟨ob, 0, none⟩) 1 1, .slice (some ⟨nb, 0, none⟩) 2 2, .int .i64 (-1)] w fun e w' => ∃ v, e = .returned v ∧ Kd.R kB 5 w' w.heap.size (fun _ => True) v (nums bs) ∧ Below w.heap.size w w' := by
  have H := zAa.mk h
  have HO := zAa.mk ho
  have HM := zAa.mk h0
  have hnn := zAa.mk hn
  have HC : zAa (Kd.C kB w (some ⟨b, 0, none⟩) n (nums bs)) := ⟨by rw [← hn]; exact C_bsAt h (by omega)⟩
  clear h ho h0 hn
  go_enter Tryz.func173, Tryz.ntmps173
  go_wp2_with fail
  refine (count1_any b 0 n c ob bs 0 _ hnn.out H.out HO.out).mono ?_
  rintro e w1 ⟨rfl, hw1⟩
  rw [HM.out]
  subst hw1
  go_wp2_with (at_builtin; refine Kd.zDf kB (w0 := w1) w1.heap.size rfl (.const (.slice none 0 0)) (.tmp 24) 47 5 (.int .u8 0) 1 rfl Tryz.underlying47 info5 rfl (by decide) (by omega) (.slice none 0 0) [] (nums bs) (some ⟨b, 0, none⟩) n c (fun _ => True) (fun _ => False) rfl rfl (Kd.R_nil _ _ _ _ _) HC.out (fun x cs h => h) (fun _ hk => hk.elim) (fun _ _ => trivial) (Below.refl _ _) (by simp) (by simp; omega) ?_; intro v1 w2 ho hb _ _)
  go_ret
  exact ⟨_, rfl, ho, hb⟩
theorem replace_any (b n c ob nb : Nat) (bs : List UInt8) (w : World) (hn : bs.length = n) (hc : n ≤ c) (hl : n ≤ 1000000) (h : BsAt w b 0 bs) (ho : BsAt w ob 0 [0]) (hnw : BsAt w nb 0 [0, 255]) :
    Calls Tryz.prog 173 #[.slice (some ⟨b, 0, none⟩) n c, .slice (some ⟨ob, 0, none⟩) 1 1, .slice (some ⟨nb, 0, none⟩) 2 2, .int .i64 (-1)] w fun e w' => ∃ v, e = .returned v ∧ Kd.R kB 5 w' w.heap.size (fun _ => True) v (nums (rep bs)) ∧ Below w.heap.size w w' := by
  by_cases h0 : bs.count 0 = 0
  · rw [rep_none h0]
    exact replace_none b n c ob nb bs w hn hc hl h ho h0
  · refine (replace_some b n c ob nb bs w hn hc hl h ho hnw h0).mono ?_
    rintro e w' ⟨v, rfl, h1, h2⟩
    exact ⟨v, rfl, R_cells rfl h1, h2⟩
set_option maxHeartbeats 1000000 in
set_option maxRecDepth 100000 in
theorem replaceAll_any (b n c ob nb : Nat) (bs : List UInt8) (w : World) (hn : bs.length = n) (hc : n ≤ c) (hl : n ≤ 1000000) (h : BsAt w b 0 bs) (ho : BsAt w ob 0 [0]) (hnw : BsAt w nb 0 [0, 255]) :
    Calls Tryz.prog 165 #[.slice (some ⟨b, 0, none⟩) n c, .slice (some ⟨ob, 0, none⟩) 1 1, .slice (some ⟨nb, 0, none⟩) 2 2] w fun e w' => ∃ v, e = .returned v ∧ Kd.R kB 5 w' w.heap.size (fun _ => True) v (nums (rep bs)) ∧ Below w.heap.size w w' := by
  have H := zAa.mk h
  have HO := zAa.mk ho
  have HN := zAa.mk hnw
  have HL := zAa.mk hn
  clear h ho hnw hn
  go_enter Tryz.func165, Tryz.ntmps165
  go_wp2_with fail
  refine (replace_any b n c ob nb bs _ HL.out hc hl H.out HO.out HN.out).mono ?_
  rintro e w' ⟨v, rfl, h1, h2⟩
  have H1 := zAa.mk h1
  have H2 := zAa.mk h2
  clear h1 h2
  obtain ⟨A, c1, e1⟩ := Kd.zAk H1.out
  subst e1
  go_wp2_with fail
  go_ret
  exact ⟨_, rfl, H1.out, H2.out⟩
end Go.Proofs.YtpckachmleonlaaGreatDoor.Cp
end
