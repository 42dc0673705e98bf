/- Cell: bytes in blocks, and the search of one byte in them. -/
import Derived.Test.YtfdnpnaacikgdaaDoorProg
import Derived.WalkKit
import Derived.WalkSpells
import Derived.WalkLawsBesides
import Derived.Lib.Hide
import Derived.Deep.QuietTactic
import Derived.BigQuiet
import Derived.Deep.LoopGhost
import Derived.Deep.DeepCutAuto
import Derived.StillTailTactics
import Derived.IntWalk
import Derived.Lib.BytesEntry
import Derived.Laws.Externs
import Derived.Shelf.Bytes.SlCountOne
import Derived.Test.YtfdnpnaacikgdaaDoorWWords
set_option linter.unusedVariables false
set_option linter.unusedSimpArgs false
namespace Go.Proofs.YtfdnpnaacikgdaaDoor
open Go.RowKit Go.Proofs.YtfdnpnaacikgdaaDoorW.PrintWords

theorem dt {p : Prop} [Decidable p] (h : p) : decide p = true := decide_eq_true h
theorem df {p : Prop} [Decidable p] (h : ¬ p) : decide p = false := decide_eq_false h
def u8 (b : UInt8) : Value := .int .u8 (b.toNat : Int)
/-- bs stands in block b from o on. -/
def BsAt (w : World) (b o : Nat) (bs : List UInt8) : Prop := ∀ i, i < bs.length → w.cell? ⟨b, o + i, none⟩ = some (.int .u8 ((bs.getD i 0).toNat : Int))
def nums (bs : List UInt8) : List Int := bs.map fun b => (b.toNat : Int)
theorem nums_length (bs : List UInt8) : (nums bs).length = bs.length := by simp [nums]
theorem bytesOf_nums (bs : List UInt8) : Lib.bytesOf (nums bs) = bs := by
  unfold Lib.bytesOf nums
  rw [List.map_map]
  conv => rhs; rw [← List.map_id bs]
  apply List.map_congr_left
  intro b _
  simp
theorem nums_getD (bs : List UInt8) (i : Nat) (h : i < bs.length) : (nums bs).getD i 0 = ((bs.getD i 0).toNat : Int) := by
  simp [nums, List.getD_eq_getElem?_getD, h]
theorem BsAt.nums {w : World} {b o : Nat} {bs : List UInt8} (h : BsAt w b o bs) : ∀ i, i < bs.length → w.cell? ⟨b, o + i, none⟩ = some (.int .u8 ((nums bs).getD i 0)) := fun i hi => by
  rw [nums_getD bs i hi]
  exact h i hi

set_option maxHeartbeats 1000000 in
theorem indexByte_any (b o n c : Nat) (bs : List UInt8) (v : UInt8) (w : World) (hn : bs.length = n) (h : BsAt w b o bs) :
    Calls Tryd.prog 51 #[.slice (some ⟨b, o, none⟩) n c, .int .u8 (v.toNat : Int)] w fun e w' => e = .returned (.int .i64 (Lib.indexByte bs v)) ∧ w' = w := by
  subst hn
  have hx := Lib.run_indexByteSlice (P := Tryd.prog) w b o bs.length c (nums bs) (nums_length bs) h.nums (v.toNat : Int)
  rw [bytesOf_nums] at hx
  have hv : ((v.toNat : Int)).toNat.toUInt8 = v := by simp
  rw [hv] at hx
  have HX := Aside0.mk hx
  clear hx h
  go_enter Tryd.func51, Tryd.ntmps51
  go_wp2
  rw [run_callFunc_extern Tryd.func58 (by kernel_rfl) (by kernel_rfl) (by kernel_rfl) (e := Extern.BytealgIndexByte.indexByte) (by kernel_rfl), HX.out]
  simp only [Result.andThen]
  rw [Oper.upon_value]
  go_wp2
  go_ret
  exact ⟨rfl, rfl⟩

set_option maxHeartbeats 1000000 in
set_option maxRecDepth 100000 in
/-- bytes.Index of one byte. -/
theorem index1_any (b o n c sb : Nat) (bs : List UInt8) (v : UInt8) (w : World) (hn : bs.length = n) (h : BsAt w b o bs) (hs : BsAt w sb 0 [v]) :
    Calls Tryd.prog 47 #[.slice (some ⟨b, o, none⟩) n c, .slice (some ⟨sb, 0, none⟩) 1 1] w fun e w' => e = .returned (.int .i64 (Lib.indexByte bs v)) ∧ w' = w := by
  have H := Aside0.mk h
  have c0 : w.cell? ⟨sb, 0, none⟩ = some (.int .u8 (v.toNat : Int)) := hs 0 (by simp)
  clear h hs
  go_enter Tryd.func47, Tryd.ntmps47
  go_wp2_with (go_at_call 51; refine (indexByte_any b o n c bs v _ hn H.out).mono ?_; rintro e w' ⟨rfl, rfl⟩)
  go_ret
  exact ⟨rfl, rfl⟩
set_option maxHeartbeats 1000000 in
set_option maxRecDepth 100000 in
/-- bytes.Count of one byte. -/
theorem count1_any (b o n c sb : Nat) (bs : List UInt8) (v : UInt8) (w : World) (hn : bs.length = n) (h : BsAt w b o bs) (hs : BsAt w sb 0 [v]) :
    Calls Tryd.prog 46 #[.slice (some ⟨b, o, none⟩) n c, .slice (some ⟨sb, 0, none⟩) 1 1] w fun e w' => e = .returned (.int .i64 (bs.count v)) ∧ w' = w := by
  subst hn
  have hx := Lib.run_countSlice (P := Tryd.prog) w b o bs.length c (nums bs) (nums_length bs) h.nums (v.toNat : Int)
  rw [bytesOf_nums] at hx
  have hv : ((v.toNat : Int)).toNat.toUInt8 = v := by simp
  rw [hv] at hx
  have HX := Aside0.mk hx
  have c0 : w.cell? ⟨sb, 0, none⟩ = some (.int .u8 (v.toNat : Int)) := hs 0 (by simp)
  clear hx h hs
  go_enter Tryd.func46, Tryd.ntmps46
  go_wp2
  rw [run_callFunc_extern Tryd.func50 (by kernel_rfl) (by kernel_rfl) (by kernel_rfl) (e := Extern.BytealgCount.count) (by kernel_rfl), HX.out]
  simp only [Result.andThen]
  rw [Oper.upon_value]
  go_wp2
  go_ret
  exact ⟨rfl, rfl⟩
end Go.Proofs.YtfdnpnaacikgdaaDoor
