/- Route: the kinds, comparison of strings, the search. -/
import Derived.Test.YtoemddjolfblbaaProg
import Derived.WalkKit
import Derived.WalkSpells
import Derived.WalkLawsBesides
import Derived.Lib.Hide
import Derived.Deep.QuietTactic
import Derived.BigQuiet
import Derived.Deep.LoopGhost
import Derived.Deep.DeepCutAuto
import Derived.StillTailTactics
import Derived.IntWalk
import Derived.Test.YtoemddjolfblbaaWWords
set_option linter.unusedVariables false
set_option linter.unusedSimpArgs false
namespace Go.Proofs.Ytoemddjolfblbaa
open Go.RowKit Go.Proofs.YtoemddjolfblbaaW.PrintWords

def cmpB (a b : ByteArray) : Int := if Op.bytesLess a.toList b.toList then -1 else if (!Op.bytesLess a.toList b.toList && !(a.toList == b.toList)) then 1 else 0

structure Part where
  from_ : ByteArray
  to_ : ByteArray
  group : Int
instance : Inhabited Part := ⟨⟨⟨#[]⟩, ⟨#[]⟩, 0⟩⟩

def Part.val (p : Part) : Value := .agg #[.string p.from_, .string p.to_, .int .u64 p.group]
def kP : Kd Part := Kd.iso (Kd.pair Kd.string (Kd.pair Kd.string (Kd.int .u64))) (fun x : Part => (x.from_, x.to_, x.group))
theorem kP_open {w : World} {x : Part} {cs : List Value} (h : kP.K w x cs) : cs = [.string x.from_, .string x.to_, .int .u64 x.group] := by
  obtain ⟨_, _, rfl, rfl, ⟨_, _, rfl, rfl, rfl⟩⟩ := h
  exact rfl
theorem kP_mkM (w : World) (base : Nat) (ok : Nat → Prop) (x : Part) : kP.M w base ok x [.string x.from_, .string x.to_, .int .u64 x.group] := ⟨[.string x.from_], [.string x.to_, .int .u64 x.group], rfl, rfl, ⟨[.string x.to_], [.int .u64 x.group], rfl, rfl, rfl⟩⟩
def pat (xs : List Part) (i : Nat) : Part := xs.getD i default
/-- The cells of element i, as the walk spells them. -/
theorem kP_at {w : World} {A : Option Addr} {n : Nat} {xs : List Part} (h : Kd.C kP w A n xs) (i : Nat) (h1 : i < n) : ∃ ad, A = some ad ∧ ad.block < w.heap.size ∧ w.cell? (ad.add (i * 3)) = some (.string (pat xs i).from_) ∧ w.cell? ⟨(ad.add (i * 3)).block, (ad.add (i * 3)).off + 1, none⟩ = some (.string (pat xs i).to_) ∧ w.cell? ⟨(ad.add (i * 3)).block, (ad.add (i * 3)).off + 2, none⟩ = some (.int .u64 (pat xs i).group) := by
  obtain ⟨ad, c, e, _, hK, hc0⟩ := Kd.C_get h default (i : Int) (by omega) (by omega)
  have hc : ∀ j u, c[j]? = some u → w.cell? (ad.add (i * 3 + j)) = some u := hc0
  obtain rfl := kP_open hK
  have h0 := hc 0 _ rfl
  refine ⟨ad, e, ?_, h0, by rw [← add_field _ _ 1 (by omega)]; exact hc 1 _ rfl, by rw [← add_field _ _ 2 (by omega)]; exact hc 2 _ rfl⟩
  have := World.block_lt_of_cell? w _ h0
  unfold Addr.add at this
  split at this <;> exact this

/-- The same, of every later world. -/
theorem kP_hold {w : World} {A : Option Addr} {n : Nat} {xs : List Part} (h : Kd.C kP w A n xs) (i : Nat) (h1 : i < n) : ∃ ad, A = some ad ∧ Aside0 (∀ w', Below w.heap.size w w' → w'.cell? (ad.add (i * 3)) = some (.string (pat xs i).from_) ∧ w'.cell? ⟨(ad.add (i * 3)).block, (ad.add (i * 3)).off + 1, none⟩ = some (.string (pat xs i).to_) ∧ w'.cell? ⟨(ad.add (i * 3)).block, (ad.add (i * 3)).off + 2, none⟩ = some (.int .u64 (pat xs i).group)) := by
  obtain ⟨ad, rfl, hb, c0, c1, c2⟩ := kP_at h i h1
  exact ⟨ad, rfl, ⟨fun w' H => ⟨(H.cell (World.block_lt_of_cell? w _ c0)).trans c0, (H.cell (World.block_lt_of_cell? w _ c1)).trans c1, (H.cell (World.block_lt_of_cell? w _ c2)).trans c2⟩⟩⟩

def RetI (n : Int) (e : Ending) : Prop := e = .returned (.int .i64 n)
theorem RetI.mk {n m : Int} (h : m = n) : RetI n (.returned (.int .i64 m)) := by subst h; rfl

theorem cmpB_lt {a b : ByteArray} (h : Op.bytesLess a.toList b.toList = true) : -1 = cmpB a b := by simp [cmpB, h]
theorem cmpB_gt {a b : ByteArray} (h : Op.bytesLess a.toList b.toList = false) (h2 : (!a.toList == b.toList) = true) : 1 = cmpB a b := by
  unfold cmpB; rw [h]; simp only [Bool.not_false, Bool.true_and]; rw [if_neg (by simp), if_pos h2]
theorem cmpB_eq {a b : ByteArray} (h : Op.bytesLess a.toList b.toList = false) (h2 : (!a.toList == b.toList) = false) : 0 = cmpB a b := by
  unfold cmpB; rw [h]; simp only [Bool.not_false, Bool.true_and]; rw [if_neg (by simp), if_neg (by rw [h2]; simp)]

set_option maxHeartbeats 400000 in
theorem isNaN_any (a : ByteArray) (w : World) :
    Calls Try.prog 36 #[.string a] w fun e w' => e = .returned (.bool false) ∧ w = w' := by
  go_enter Try.func36, Try.ntmps36
  go_wp2
  go_ret
  exact ⟨by simp, rfl⟩

set_option maxHeartbeats 400000 in
theorem cmp_any (a b : ByteArray) (w : World) :
    Calls Try.prog 32 #[.string a, .string b] w fun e w' => e = .returned (.int .i64 (cmpB a b)) ∧ w = w' := by
  go_enter Try.func32, Try.ntmps32
  go_wp2_with (go_at_call 36; refine (isNaN_any _ _).mono ?_; rintro e w' ⟨rfl, rfl⟩)
  all_goals go_ret
  · exact ⟨RetI.mk (cmpB_lt ‹_›), rfl⟩
  all_goals first | exact ⟨RetI.mk (cmpB_gt ‹_› ‹_›), rfl⟩ | exact ⟨RetI.mk (cmpB_eq ‹_› ‹_›), rfl⟩

set_option maxHeartbeats 400000 in
theorem place1_any (f t b : ByteArray) (g : Int) (w : World) :
    Calls Try.prog 31 #[.agg #[.string f, .string t, .int .u64 g], .string b] w fun e w' => e = .returned (.int .i64 (cmpB f b)) ∧ Below w.heap.size w w' := by
  go_enter Try.func31, Try.ntmps31
  go_wp2_with (go_at_call 32; refine (cmp_any _ _ _).mono ?_; rintro e w' ⟨rfl, rfl⟩)
  go_ret
  exact ⟨RetI.mk rfl, (Below.refl _ _).alloc (Nat.le_refl _) _⟩

/-- The search, as slices.BinarySearchFunc goes: between i and j. -/
def bsr (c : Nat → Int) : Nat → Nat → Nat → Nat
  | 0, i, _ => i
  | k + 1, i, j => if i < j then (if c ((i + j) / 2) < 0 then bsr c k ((i + j) / 2 + 1) j else bsr c k i ((i + j) / 2)) else i
theorem bsr_done (c : Nat → Int) (k i : Nat) : bsr c k i i = i := by cases k <;> simp [bsr]
theorem bsr_lt {c : Nat → Int} {k i j : Nat} (h : i < j) (hk : j - i < k) : bsr c k i j = if c ((i + j) / 2) < 0 then bsr c (k - 1) ((i + j) / 2 + 1) j else bsr c (k - 1) i ((i + j) / 2) := by
  obtain ⟨k, rfl⟩ : ∃ m, k = m + 1 := ⟨k - 1, by omega⟩
  simp [bsr, h]

end Go.Proofs.Ytoemddjolfblbaa
