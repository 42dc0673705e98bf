/- Words and walks for Split and Tablet: texts of these sessions, and of the kit's print, cut down to what is used (D4 Card3). -/
import Derived.Test.YtpckachmleonlaaGreatDoorCut41
import Derived.ProofKit
import Derived.OpenShut
import Derived.ShutString
import Derived.SizedLaws
import Derived.Deep.Slices
import Derived.Deep.Fields
section
set_option linter.unusedVariables false
set_option linter.unusedSimpArgs false
namespace Go.Proofs.YtpckachmleonlaaGreatDoor
open Go.RowKit Go.Proofs.YtpckachmleonlaaGreatDoorW.PrintWords Go.ChangeShapes Go.WideShapes Go.Deep
def RdW {α : Type} (P : Program) (t : TypeId) (d : Kd α) (ok : α → Prop) : Prop :=
  ∀ (H : Type) (enc : TypeId × Value → H) (w : World) (base : Nat) (spare : Nat → Bool) (held : Bool) (fuel : Nat) (cs : List Value) (x : DataW H × List MemPlace),
    DataW.trod enc P w base spare held fuel t cs = some x → (∀ n ∈ x.1.weights P t, n ≤ reachBytes) → ∃ a, d.K w a cs ∧ ok a
theorem mem_each {H : Type} {P : Program} : ∀ {ts : List TypeId} {ds : List (DataW H)} {i : Nat} {t : TypeId} {d : DataW H} {n : Nat}, ts[i]? = some t → ds[i]? = some d → n ∈ d.weights P t → n ∈ DataW.weightsEach P ts ds
  | [], _, _, _, _, _, h, _, _ => by simp at h
  | _ :: _, [], _, _, _, _, _, h, _ => by simp at h
  | t :: ts, d :: ds, 0, _, _, _, h1, h2, h3 => by
    simp at h1 h2
    subst h1 h2
    rw [DataW.weightsEach]
    exact List.mem_append_left _ h3
  | t :: ts, d :: ds, i + 1, _, _, _, h1, h2, h3 => by
    rw [DataW.weightsEach]
    exact List.mem_append_right _ (mem_each (by simpa using h1) (by simpa using h2) h3)
theorem mem_all {H : Type} {P : Program} {e : TypeId} : ∀ {ds : List (DataW H)} {d : DataW H} {n : Nat}, d ∈ ds → n ∈ d.weights P e → n ∈ DataW.weightsAll P e ds
  | [], _, _, h, _ => by cases h
  | a :: ds, d, n, h, hn => by
    rw [DataW.weightsAll]
    rcases List.mem_cons.1 h with rfl | h
    · exact List.mem_append_left _ hn
    · exact List.mem_append_right _ (mem_all h hn)
section
variable {P : Program} {t e : TypeId}
theorem RdW.string (h : P.underlying t = some .string) : RdW P t Kd.string (fun s => s.size ≤ reachBytes) := by
  intro H enc w base spare held fuel cs x hx hw
  obtain ⟨s, rfl, rfl, hs⟩ := DataW.trod_string h hx
  refine ⟨s, rfl, ?_⟩
  have := hw s.data.toList.length (by rw [DataW.weights]; simp)
  simpa using this
theorem RdW.int {k : IntKind} (h : P.underlying t = some (.int k)) : RdW P t (Kd.int k) (fun n => (Lit.int k n).wf = true) := by
  intro H enc w base spare held fuel cs x hx _
  obtain ⟨n, rfl, _, hn⟩ := DataW.trod_int h hx
  exact ⟨n, rfl, hn⟩
theorem RdW.bool (h : P.underlying t = some .bool) : RdW P t Kd.bool (fun _ => True) := by
  intro H enc w base spare held fuel cs x hx _
  obtain ⟨b, rfl, _⟩ := DataW.trod_bool h hx
  exact ⟨b, rfl, trivial⟩
theorem rdw_field {H : Type} {enc : TypeId × Value → H} {w : World} {base : Nat} {spare : Nat → Bool} {held : Bool} {fuel : Nat} {cs : List Value} {x : DataW H × List MemPlace} {fs : Array Field}
    (ht : P.underlying t = some (.struct fs)) (h : DataW.trod enc P w base spare held fuel t cs = some x) (hw : ∀ n ∈ x.1.weights P t, n ≤ reachBytes) :
    cs.length = P.cellsOf t ∧ ∀ (i : Nat) (f : Field), fs[i]? = some f → ∀ {α : Type} {d : Kd α} {ok : α → Prop}, RdW P f.type d ok → ∃ a, d.K w a ((cs.drop f.offset).take (P.cellsOf f.type)) ∧ ok a := by
  obtain ⟨xs, n, _, rfl, hl, hxs, hf⟩ := DataW.trod_struct ht h
  refine ⟨hl, fun i f hi α d ok hr => ?_⟩
  have h1 := hf i f hi
  have hlt : i < xs.length := by rw [hxs]; exact (Array.getElem?_eq_some_iff.1 hi).1
  rw [List.getElem?_eq_getElem hlt] at h1
  refine hr H enc w base spare held n _ _ h1 (fun m hm => hw m ?_)
  rw [DataW.weights]
  simp only [ht]
  refine mem_each (i := i) (t := f.type) (d := xs[i].1) ?_ ?_ hm
  · rw [List.getElem?_map, Array.getElem?_toList, hi]
    rfl
  · rw [List.getElem?_map, List.getElem?_eq_getElem hlt]
    rfl
theorem RdW.slice {α : Type} {d : Kd α} {ok : α → Prop} (ht : P.underlying t = some (.slice e)) (hC : P.cellsOf e = d.sz) (hr : RdW P e d ok) : RdW P t (Kd.slice e d) (fun l => ∀ a ∈ l, ok a) := by
  intro H enc w base spare held fuel cs x hx hw
  rcases open_slice ht hx with ⟨rfl, _⟩ | ⟨a, len, cap, m, n, D, Pl, rfl, _, hl, hcap, hm, hxe, hi⟩
  · exact ⟨[], ⟨none, 0, rfl, Nat.le_refl _, rfl, by simp, fun h => absurd h (by simp)⟩, fun a ha => absurd ha (by simp)⟩
  · subst hxe
    have hlm : len ≤ m := by rw [hm]; split <;> omega
    have key : ∀ i, i < len → ∃ v, (∃ c, c.length = d.sz ∧ d.K w v c ∧ ∀ j u, c[j]? = some u → w.cell? (a.add (i * d.sz + j)) = some u) ∧ ok v := by
      intro i hlt
      obtain ⟨cs', hc, ht'⟩ := hi i (by omega)
      obtain ⟨v, hk, ho⟩ := hr H enc w base spare held n cs' _ ht' (fun q hq => hw q (by
        rw [DataW.weights]
        simp only [ht]
        refine List.mem_cons_of_mem _ (List.mem_append_left _ (mem_all (d := D i) ?_ hq))
        exact List.mem_map.2 ⟨i, List.mem_range.2 hlt, rfl⟩))
      obtain ⟨_, hcl, hat⟩ := World.cells?_some hc
      rw [hC] at hcl hat
      refine ⟨v, ⟨cs', hcl, hk, fun j u hu => ?_⟩, ho⟩
      have hj : j < d.sz := by rw [← hcl]; exact (List.getElem?_eq_some_iff.1 hu).1
      rw [← Go.Deep.add_add, hat j hj, hu]
    have hch := fun i : Fin len => Classical.choose_spec (key i.1 i.2)
    refine ⟨List.ofFn fun i : Fin len => Classical.choose (key i.1 i.2), ⟨some a, cap, by rw [List.length_ofFn], by rw [List.length_ofFn]; exact hl, by simp, by rw [List.length_ofFn]; unfold maxLen at hcap; omega, fun _ => ⟨a, rfl, fun j p hp => ?_⟩⟩, ?_⟩
    · rw [List.getElem?_ofFn] at hp
      split at hp
      · rename_i hj
        injection hp with hp
        rw [← hp]
        exact (hch ⟨j, hj⟩).1
      · cases hp
    · intro b hb
      rw [List.mem_ofFn] at hb
      obtain ⟨i, rfl⟩ := hb
      exact (hch i).2
end
def KeyOk (k : KeyM) : Prop := Fit k ∧ 0 ≤ k.f3 ∧ k.f3 < 18446744073709551616
theorem rd_key {P : Program} {t : TypeId} {n0 n1 n2 n3 : Field} (ht : P.underlying t = some (.struct #[n0, n1, n2, n3])) (hc : P.cellsOf t = 4) (h0 : P.underlying n0.type = some .string) (h1 : P.underlying n1.type = some .string) (h2 : P.underlying n2.type = some .string) (h3 : P.underlying n3.type = some (.int .u64))
    (o0 : n0.offset = 0) (o1 : n1.offset = 1) (o2 : n2.offset = 2) (o3 : n3.offset = 3) (c0 : P.cellsOf n0.type = 1) (c1 : P.cellsOf n1.type = 1) (c2 : P.cellsOf n2.type = 1) (c3 : P.cellsOf n3.type = 1) : RdW P t PSplitCuts.k46 KeyOk := by
  intro H enc w base spare held fuel cs x hx hw
  obtain ⟨hl, hf⟩ := rdw_field ht hx hw
  rw [hc] at hl
  match cs, hl with
  | [a, b, c, d], _ =>
    obtain ⟨x0, k0, y0⟩ := hf 0 n0 rfl (RdW.string h0)
    obtain ⟨x1, k1, y1⟩ := hf 1 n1 rfl (RdW.string h1)
    obtain ⟨x2, k2, y2⟩ := hf 2 n2 rfl (RdW.string h2)
    obtain ⟨x3, k3, y3⟩ := hf 3 n3 rfl (RdW.int h3)
    rw [o0, c0] at k0
    rw [o1, c1] at k1
    rw [o2, c2] at k2
    rw [o3, c3] at k3
    refine ⟨⟨x0, x1, x2, x3⟩, ⟨[a], [b, c, d], rfl, k0, [b], [c, d], rfl, k1, [c], [d], rfl, k2, k3⟩, ⟨?_, ?_, ?_⟩, Cp.u64_wf y3⟩
    · exact Nat.le_trans y0 (by unfold reachBytes; omega)
    · exact Nat.le_trans y1 (by unfold reachBytes; omega)
    · exact Nat.le_trans y2 (by unfold reachBytes; omega)
theorem rd_cell {P : Program} {t : TypeId} {n0 n1 n2 : Field} (ht : P.underlying t = some (.struct #[n0, n1, n2])) (hc : P.cellsOf t = 6) (h0 : RdW P n0.type PSplitCuts.k46 KeyOk) (h1 : RdW P n1.type (Kd.slice 5 kB) (fun _ => True)) (h2 : P.underlying n2.type = some .bool)
    (o0 : n0.offset = 0) (o1 : n1.offset = 4) (o2 : n2.offset = 5) (c0 : P.cellsOf n0.type = 4) (c1 : P.cellsOf n1.type = 1) (c2 : P.cellsOf n2.type = 1) : RdW P t kC (fun x => KeyOk x.f0) := by
  intro H enc w base spare held fuel cs x hx hw
  obtain ⟨hl, hf⟩ := rdw_field ht hx hw
  rw [hc] at hl
  match cs, hl with
  | [a, b, c, d, e, f], _ =>
    obtain ⟨x0, k0, y0⟩ := hf 0 n0 rfl h0
    obtain ⟨x1, k1, y1⟩ := hf 1 n1 rfl h1
    obtain ⟨x2, k2, y2⟩ := hf 2 n2 rfl (RdW.bool h2)
    rw [o0, c0] at k0
    rw [o1, c1] at k1
    rw [o2, c2] at k2
    exact ⟨⟨x0, x1, x2⟩, ⟨[a, b, c, d], [e, f], rfl, k0, [e], [f], rfl, k1, k2⟩, y0⟩
theorem RdW.weaken {α : Type} {P : Program} {t : TypeId} {d : Kd α} {ok ok' : α → Prop} (h : RdW P t d ok) (hk : ∀ a, ok a → ok' a) : RdW P t d ok' := fun H enc w base spare held fuel cs x hx hw => by
  obtain ⟨a, h1, h2⟩ := h H enc w base spare held fuel cs x hx hw
  exact ⟨a, h1, hk a h2⟩
theorem rd_cells : RdW Tryz.prog 22 (Kd.slice 49 kC) (fun l => ∀ x ∈ l, KeyOk x.f0) :=
  RdW.slice Tryz.underlying22 (by kernel_rfl) (rd_cell Tryz.underlying49 (by kernel_rfl) (rd_key Tryz.underlying46 (by kernel_rfl) Tryz.underlying9 Tryz.underlying9 Tryz.underlying9 Tryz.underlying44 rfl rfl rfl rfl (by kernel_rfl) (by kernel_rfl) (by kernel_rfl) (by kernel_rfl))
    ((RdW.slice Tryz.underlying47 (by kernel_rfl) (RdW.int Tryz.underlying5)).weaken (fun _ _ => trivial)) Tryz.underlying4 rfl rfl rfl (by kernel_rfl) (by kernel_rfl) (by kernel_rfl))
end Go.Proofs.YtpckachmleonlaaGreatDoor
end
section
set_option linter.unusedVariables false
namespace Go.Proofs.YtpckachmleonlaaGreatDoor
open Go.RowKit Go.Proofs.YtpckachmleonlaaGreatDoorW.PrintWords
theorem each_le {H : Type} {P : Program} {ts : List TypeId} {ds : List (DataW H)} (h : (DataW.weightsEach P ts ds).all (· ≤ reachBytes) = true) (i : Nat) (t : TypeId) (d : DataW H) (ht : ts[i]? = some t) (hd : ds[i]? = some d) : ∀ n ∈ d.weights P t, n ≤ reachBytes := fun n hn => by
  have h9 := List.all_eq_true.1 h n (mem_each ht hd hn)
  simpa using h9
theorem splitCuts_card (a b : ByteArray) (A : Option Addr) (c : Nat) (l : List CellM) (s : ByteArray) (W : World) (_ : a.size ≤ maxLen) (_ : b.size ≤ maxLen) (hr : kC.C W A l.length l) (hc : l.length ≤ c) (ok : ∀ x ∈ l, KeyOk x.f0) (_ : s.size ≤ maxLen) :
    Calls Tryz.prog 3 #[.string a, .string b, .slice A l.length c, .string s] W fun e W' => e = .returned (.bool true) ∧ Below W.heap.size W W' :=
  splitCuts_law a b A c l s W hr hc (fun x hx => (ok x hx).1) (fun x hx => (ok x hx).2)
end Go.Proofs.YtpckachmleonlaaGreatDoor
end
