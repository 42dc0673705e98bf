/- Cell: Read and the reference's Read, in the form of the printed texts. -/
import Derived.Test.YtfdnpnaacikgdaaDoorV
/- Read, given. -/
set_option linter.unusedVariables false
set_option linter.unusedSimpArgs false
namespace Go.Proofs.YtfdnpnaacikgdaaDoor
open Go.RowKit Go.Proofs.YtfdnpnaacikgdaaDoorW.PrintWords

def toU (l : List Int) : List UInt8 := (strOfNums l).data.toList
def readR (o : Option (ByteArray × ByteArray × ByteArray × Int)) : ByteArray × ByteArray × ByteArray × Int × Int :=
  match o with
  | some (r, f, q, t) => (r, f, q, t, 0)
  | none => (⟨#[]⟩, ⟨#[]⟩, ⟨#[]⟩, 0, 5)
def cell_Read.f (l : List Int) : Option (ByteArray × ByteArray × ByteArray × Int × Int) := if nums (toU l) = l ∧ l.length ≤ 100000 then some (readR (readF (toU l))) else none
def bulwarkref04_Read.f (l : List Int) : Option (ByteArray × ByteArray × ByteArray × Int × Int) := cell_Read.f l
theorem read_bad {l : List Int} {r1 r2 r3 : ByteArray} {r4 r5 : Int} (h : cell_Read.f l = some (r1, r2, r3, r4, r5)) (h5 : ¬ r5 = 0) : r1 = ⟨#[]⟩ ∧ r2 = ⟨#[]⟩ ∧ r3 = ⟨#[]⟩ ∧ r4 = 0 := by
  unfold cell_Read.f at h
  split at h
  · have h1 := Option.some.inj h
    cases hr : readF (toU l) with
    | none =>
      rw [hr] at h1
      simp only [readR, Prod.mk.injEq] at h1
      obtain ⟨rfl, rfl, rfl, rfl, rfl⟩ := h1
      exact ⟨rfl, rfl, rfl, rfl⟩
    | some p =>
      obtain ⟨r, f, q, t⟩ := p
      rw [hr] at h1
      simp only [readR, Prod.mk.injEq] at h1
      exact absurd h1.2.2.2.2.symm h5
  · cases h
theorem ReadPost.out {w w' : World} {o : Option (ByteArray × ByteArray × ByteArray × Int)} {e : Ending} (h : ReadPost w o e w') : e = .returned (.tuple #[.agg #[.string (readR o).1, .string (readR o).2.1, .string (readR o).2.2.1, .int .u64 (readR o).2.2.2.1], .int .i64 (readR o).2.2.2.2]) ∧ Below w.heap.size w w' := by
  unfold ReadPost at h
  cases o with
  | none => exact h
  | some p => obtain ⟨r, f, q, t⟩ := p; exact h
theorem cell_Read.calls (A0 : Option Addr) (c0 : Nat) (l0 : List Int) (r1 : ByteArray) (r2 : ByteArray) (r3 : ByteArray) (r4 : Int) (r5 : Int) (w : World) (hr0 : Kd.C (Kd.int .u8) w A0 l0.length l0) (hc0 : l0.length ≤ c0) (h : cell_Read.f l0 = some (r1, r2, r3, r4, r5)) :
    Calls Tryd.prog 22 #[.slice A0 l0.length c0] w fun e w' => e = .returned (.tuple #[.agg #[.string r1, .string r2, .string r3, .int .u64 r4], .int .i64 r5]) ∧ Below w.heap.size w w' := by
  unfold cell_Read.f at h
  split at h
  · rename_i hh
    have h1 := Option.some.inj h
    have hl : (toU l0).length = l0.length := by
      conv => rhs; rw [← hh.1]
      rw [nums_length]
    refine (read_any A0 l0.length c0 (toU l0) w hl hc0 hh.2 (by rw [hh.1]; exact hr0)).mono fun e w' hp => ?_
    have := hp.out
    rw [h1] at this
    exact this
  · cases h
theorem bulwarkref04_Read.calls (A0 : Option Addr) (c0 : Nat) (l0 : List Int) (r1 : ByteArray) (r2 : ByteArray) (r3 : ByteArray) (r4 : Int) (r5 : Int) (w : World) (hr0 : Kd.C (Kd.int .u8) w A0 l0.length l0) (hc0 : l0.length ≤ c0) (h : bulwarkref04_Read.f l0 = some (r1, r2, r3, r4, r5)) :
    Calls Tryd.prog 23 #[.slice A0 l0.length c0] w fun e w' => e = .returned (.tuple #[.agg #[.string r1, .string r2, .string r3, .int .u64 r4], .int .i64 r5]) ∧ Below w.heap.size w w' := by
  unfold bulwarkref04_Read.f cell_Read.f at h
  split at h
  · rename_i hh
    have h1 := Option.some.inj h
    have hl : (toU l0).length = l0.length := by
      conv => rhs; rw [← hh.1]
      rw [nums_length]
    refine (refRead_any A0 l0.length c0 (toU l0) w hl hc0 hh.2 (by rw [hh.1]; exact hr0)).mono fun e w' hp => ?_
    have := hp.out
    rw [h1] at this
    exact this
  · cases h
end Go.Proofs.YtfdnpnaacikgdaaDoor
