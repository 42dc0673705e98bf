/- Readers: an argument that reads as data is bytes, operations. -/
import Derived.Test.YtfjfggnbkopocaaB
import Derived.Test.YtfjfggnbkopocaaPSlotsTwox0
import Derived.ProofKit
import Derived.OpenShut
import Derived.ShutString
import Derived.ChangeOld
import Derived.SizedLaws
import Derived.Deep.Slices
import Derived.Deep.Fields
/- Readers: what came in reads as a Lean value of its kind. -/
set_option linter.unusedVariables false
set_option linter.unusedSimpArgs false
namespace Go.Proofs.Ytfjfggnbkopocaa
open Go.RowKit Go.Proofs.YtfjfggnbkopocaaW.PrintWords Go.ChangeShapes Go.WideShapes Go.Deep

/-- A value of type t reads as one of kind d, and is ok. -/
def RdT {α : Type} (P : Program) (t : TypeId) (d : Kd α) (ok : α → Prop) : Prop :=
  ∀ (H : Type) (enc : TypeId × Value → H) (w : World) (base : Nat) (spare : Nat → Bool) (held : Bool) (fuel : Nat) (cs : List Value) (x : DataW H × List MemPlace),
    DataW.trod enc P w base spare held fuel t cs = some x → ∃ a, d.K w a cs ∧ ok a
section
variable {P : Program} {t e : TypeId}
theorem RdT.string (h : P.underlying t = some .string) : RdT P t Kd.string (fun s => s.size ≤ maxLen) := by
  intro H enc w base spare held fuel cs x hx
  obtain ⟨s, rfl, _, hs⟩ := DataW.trod_string h hx
  exact ⟨s, rfl, hs⟩
theorem RdT.int {k : IntKind} (h : P.underlying t = some (.int k)) : RdT P t (Kd.int k) (fun n => (Lit.int k n).wf = true) := by
  intro H enc w base spare held fuel cs x hx
  obtain ⟨n, rfl, _, hn⟩ := DataW.trod_int h hx
  exact ⟨n, rfl, hn⟩
/-- A struct's field. -/
theorem rd_field {H : Type} {enc : TypeId × Value → H} {w : World} {base : Nat} {spare : Nat → Bool} {held : Bool} {fuel : Nat} {cs : List Value} {x : DataW H × List MemPlace} {fs : Array Field}
    (ht : P.underlying t = some (.struct fs)) (h : DataW.trod enc P w base spare held fuel t cs = some x) :
    cs.length = P.cellsOf t ∧ ∀ (i : Nat) (f : Field), fs[i]? = some f → ∀ {α : Type} {d : Kd α} {ok : α → Prop}, RdT P f.type d ok → ∃ a, d.K w a ((cs.drop f.offset).take (P.cellsOf f.type)) ∧ ok a := by
  obtain ⟨xs, n, _, _, hl, hxs, hf⟩ := DataW.trod_struct ht h
  refine ⟨hl, fun i f hi α d ok hr => ?_⟩
  have h1 := hf i f hi
  have hlt : i < xs.length := by rw [hxs]; exact (Array.getElem?_eq_some_iff.1 hi).1
  rw [List.getElem?_eq_getElem hlt] at h1
  exact hr H enc w base spare held n _ _ h1
theorem RdT.slice {α : Type} {d : Kd α} {ok : α → Prop} (ht : P.underlying t = some (.slice e)) (hC : P.cellsOf e = d.sz) (hr : RdT P e d ok) : RdT P t (Kd.slice e d) (fun l => ∀ a ∈ l, ok a) := by
  intro H enc w base spare held fuel cs x hx
  rcases open_slice ht hx with ⟨rfl, _⟩ | ⟨a, len, cap, m, n, D, Pl, rfl, _, hl, hcap, hm, _, hi⟩
  · exact ⟨[], ⟨none, 0, rfl, Nat.le_refl _, rfl, by simp, fun h => absurd h (by simp)⟩, fun a ha => absurd ha (by simp)⟩
  · have hlm : len ≤ m := by rw [hm]; split <;> omega
    have key : ∀ i, i < len → ∃ v, (∃ c, c.length = d.sz ∧ d.K w v c ∧ ∀ j u, c[j]? = some u → w.cell? (a.add (i * d.sz + j)) = some u) ∧ ok v := by
      intro i hlt
      obtain ⟨cs', hc, ht'⟩ := hi i (by omega)
      obtain ⟨v, hk, ho⟩ := hr H enc w base spare held n cs' _ ht'
      obtain ⟨_, hcl, hat⟩ := World.cells?_some hc
      rw [hC] at hcl hat
      refine ⟨v, ⟨cs', hcl, hk, fun j u hu => ?_⟩, ho⟩
      have hj : j < d.sz := by rw [← hcl]; exact (List.getElem?_eq_some_iff.1 hu).1
      rw [← Go.Deep.add_add, hat j hj, hu]
    have hch := fun i : Fin len => Classical.choose_spec (key i.1 i.2)
    refine ⟨List.ofFn fun i : Fin len => Classical.choose (key i.1 i.2), ⟨some a, cap, by rw [List.length_ofFn], by rw [List.length_ofFn]; exact hl, by simp, by rw [List.length_ofFn]; unfold maxLen at hcap; omega, fun _ => ⟨a, rfl, fun j p hp => ?_⟩⟩, ?_⟩
    · rw [List.getElem?_ofFn] at hp
      split at hp
      · rename_i hj
        injection hp with hp
        rw [← hp]
        exact (hch ⟨j, hj⟩).1
      · cases hp
    · intro b hb
      rw [List.mem_ofFn] at hb
      obtain ⟨i, rfl⟩ := hb
      exact (hch i).2
end

/-- An operation of a law. -/
def opOk (x : PSlotsTwo.S33) : Prop := (Lit.int .i64 x.f0).wf = true ∧ (Lit.int .u64 x.f1).wf = true ∧ (Lit.int .u64 x.f2).wf = true ∧ ∀ a ∈ x.f3, (Lit.int .u8 a).wf = true
def byteOk (a : Int) : Prop := (Lit.int .u8 a).wf = true
theorem rd_bytes : RdT Try.prog 31 (Kd.slice 5 kB) (fun l => ∀ a ∈ l, byteOk a) := RdT.slice Try.underlying31 (by kernel_rfl) (RdT.int Try.underlying5)
theorem rd_op {P : Program} {t : TypeId} {n0 n1 n2 n3 : Field} (ht : P.underlying t = some (.struct #[n0, n1, n2, n3])) (hc : P.cellsOf t = 4) (h0 : P.underlying n0.type = some (.int .i64)) (h1 : P.underlying n1.type = some (.int .u64)) (h2 : P.underlying n2.type = some (.int .u64))
    (h3 : RdT P n3.type (Kd.slice 5 kB) (fun l => ∀ a ∈ l, byteOk a)) (o0 : n0.offset = 0) (o1 : n1.offset = 1) (o2 : n2.offset = 2) (o3 : n3.offset = 3) (c0 : P.cellsOf n0.type = 1) (c1 : P.cellsOf n1.type = 1) (c2 : P.cellsOf n2.type = 1) (c3 : P.cellsOf n3.type = 1) : RdT P t PSlotsTwo.k33 opOk := by
  intro H enc w base spare held fuel cs x hx
  obtain ⟨hl, hf⟩ := rd_field ht hx
  rw [hc] at hl
  match cs, hl with
  | [a, b, c, d], _ =>
    obtain ⟨v0, k0, r0⟩ := hf 0 n0 rfl (RdT.int h0)
    obtain ⟨v1, k1, r1⟩ := hf 1 n1 rfl (RdT.int h1)
    obtain ⟨v2, k2, r2⟩ := hf 2 n2 rfl (RdT.int h2)
    obtain ⟨v3, k3, r3⟩ := hf 3 n3 rfl h3
    rw [o0, c0] at k0
    rw [o1, c1] at k1
    rw [o2, c2] at k2
    rw [o3, c3] at k3
    exact ⟨⟨v0, v1, v2, v3⟩, ⟨[a], [b, c, d], rfl, k0, [b], [c, d], rfl, k1, [c], [d], rfl, k2, k3⟩, r0, r1, r2, r3⟩
set_option maxRecDepth 100000 in
theorem rd_ops : RdT Try.prog 22 (Kd.slice 33 PSlotsTwo.k33) (fun l => ∀ x ∈ l, opOk x) :=
  RdT.slice Try.underlying22 (by kernel_rfl) (rd_op Try.underlying33 (by kernel_rfl) (by kernel_rfl) (by kernel_rfl) (by kernel_rfl) rd_bytes (by rfl) (by rfl) (by rfl) (by rfl) (by kernel_rfl) (by kernel_rfl) (by kernel_rfl) (by kernel_rfl))
end Go.Proofs.Ytfjfggnbkopocaa
