/- Words and walks for Split and Tablet: texts of these sessions, and of the kit's print, cut down to what is used (D4 B5 Card3 Card10 I4 L4). -/
import Derived.Test.YtpckachmleonlaaGreatDoorCv41
import Derived.ProofKit
import Derived.OpenShut
import Derived.ShutString
import Derived.SizedLaws
import Derived.Deep.Slices
import Derived.Deep.Fields
section
set_option linter.unusedVariables false
set_option linter.unusedSimpArgs false
namespace Go.Proofs.YtpckachmleonlaaGreatDoor
open Go.RowKit Go.Proofs.YtpckachmleonlaaGreatDoorW.PrintWords Go.ChangeShapes Go.WideShapes Go.Deep
def RdW {α : Type} (P : Program) (t : TypeId) (d : Kd α) (ok : α → Prop) : Prop :=
  ∀ (H : Type) (enc : TypeId × Value → H) (w : World) (base : Nat) (spare : Nat → Bool) (held : Bool) (fuel : Nat) (cs : List Value) (x : DataW H × List MemPlace),
    DataW.trod enc P w base spare held fuel t cs = some x → (∀ n ∈ x.1.weights P t, n ≤ reachBytes) → ∃ a, d.K w a cs ∧ ok a
theorem mem_each {H : Type} {P : Program} : ∀ {ts : List TypeId} {ds : List (DataW H)} {i : Nat} {t : TypeId} {d : DataW H} {n : Nat}, ts[i]? = some t → ds[i]? = some d → n ∈ d.weights P t → n ∈ DataW.weightsEach P ts ds
  | [], _, _, _, _, _, h, _, _ => by simp at h
  | _ :: _, [], _, _, _, _, _, h, _ => by simp at h
  | t :: ts, d :: ds, 0, _, _, _, h1, h2, h3 => by
    simp at h1 h2
    subst h1 h2
    rw [DataW.weightsEach]
    exact List.mem_append_left _ h3
  | t :: ts, d :: ds, i + 1, _, _, _, h1, h2, h3 => by
    rw [DataW.weightsEach]
    exact List.mem_append_right _ (mem_each (by simpa using h1) (by simpa using h2) h3)
theorem mem_all {H : Type} {P : Program} {e : TypeId} : ∀ {ds : List (DataW H)} {d : DataW H} {n : Nat}, d ∈ ds → n ∈ d.weights P e → n ∈ DataW.weightsAll P e ds
  | [], _, _, h, _ => by cases h
  | a :: ds, d, n, h, hn => by
    rw [DataW.weightsAll]
    rcases List.mem_cons.1 h with rfl | h
    · exact List.mem_append_left _ hn
    · exact List.mem_append_right _ (mem_all h hn)
section
variable {P : Program} {t e : TypeId}
theorem RdW.string (h : P.underlying t = some .string) : RdW P t Kd.string (fun s => s.size ≤ reachBytes) := by
  intro H enc w base spare held fuel cs x hx hw
  obtain ⟨s, rfl, rfl, hs⟩ := DataW.trod_string h hx
  refine ⟨s, rfl, ?_⟩
  have := hw s.data.toList.length (by rw [DataW.weights]; simp)
  simpa using this
theorem RdW.int {k : IntKind} (h : P.underlying t = some (.int k)) : RdW P t (Kd.int k) (fun n => (Lit.int k n).wf = true) := by
  intro H enc w base spare held fuel cs x hx _
  obtain ⟨n, rfl, _, hn⟩ := DataW.trod_int h hx
  exact ⟨n, rfl, hn⟩
theorem RdW.bool (h : P.underlying t = some .bool) : RdW P t Kd.bool (fun _ => True) := by
  intro H enc w base spare held fuel cs x hx _
  obtain ⟨b, rfl, _⟩ := DataW.trod_bool h hx
  exact ⟨b, rfl, trivial⟩
theorem rdw_field {H : Type} {enc : TypeId × Value → H} {w : World} {base : Nat} {spare : Nat → Bool} {held : Bool} {fuel : Nat} {cs : List Value} {x : DataW H × List MemPlace} {fs : Array Field}
    (ht : P.underlying t = some (.struct fs)) (h : DataW.trod enc P w base spare held fuel t cs = some x) (hw : ∀ n ∈ x.1.weights P t, n ≤ reachBytes) :
    cs.length = P.cellsOf t ∧ ∀ (i : Nat) (f : Field), fs[i]? = some f → ∀ {α : Type} {d : Kd α} {ok : α → Prop}, RdW P f.type d ok → ∃ a, d.K w a ((cs.drop f.offset).take (P.cellsOf f.type)) ∧ ok a := by
  obtain ⟨xs, n, _, rfl, hl, hxs, hf⟩ := DataW.trod_struct ht h
  refine ⟨hl, fun i f hi α d ok hr => ?_⟩
  have h1 := hf i f hi
  have hlt : i < xs.length := by rw [hxs]; exact (Array.getElem?_eq_some_iff.1 hi).1
  rw [List.getElem?_eq_getElem hlt] at h1
  refine hr H enc w base spare held n _ _ h1 (fun m hm => hw m ?_)
  rw [DataW.weights]
  simp only [ht]
  refine mem_each (i := i) (t := f.type) (d := xs[i].1) ?_ ?_ hm
  · rw [List.getElem?_map, Array.getElem?_toList, hi]
    rfl
  · rw [List.getElem?_map, List.getElem?_eq_getElem hlt]
    rfl
theorem RdW.slice {α : Type} {d : Kd α} {ok : α → Prop} (ht : P.underlying t = some (.slice e)) (hC : P.cellsOf e = d.sz) (hr : RdW P e d ok) : RdW P t (Kd.slice e d) (fun l => ∀ a ∈ l, ok a) := by
  intro H enc w base spare held fuel cs x hx hw
  rcases open_slice ht hx with ⟨rfl, _⟩ | ⟨a, len, cap, m, n, D, Pl, rfl, _, hl, hcap, hm, hxe, hi⟩
  · exact ⟨[], ⟨none, 0, rfl, Nat.le_refl _, rfl, by simp, fun h => absurd h (by simp)⟩, fun a ha => absurd ha (by simp)⟩
  · subst hxe
    have hlm : len ≤ m := by rw [hm]; split <;> omega
    have key : ∀ i, i < len → ∃ v, (∃ c, c.length = d.sz ∧ d.K w v c ∧ ∀ j u, c[j]? = some u → w.cell? (a.add (i * d.sz + j)) = some u) ∧ ok v := by
      intro i hlt
      obtain ⟨cs', hc, ht'⟩ := hi i (by omega)
      obtain ⟨v, hk, ho⟩ := hr H enc w base spare held n cs' _ ht' (fun q hq => hw q (by
        rw [DataW.weights]
        simp only [ht]
        refine List.mem_cons_of_mem _ (List.mem_append_left _ (mem_all (d := D i) ?_ hq))
        exact List.mem_map.2 ⟨i, List.mem_range.2 hlt, rfl⟩))
      obtain ⟨_, hcl, hat⟩ := World.cells?_some hc
      rw [hC] at hcl hat
      refine ⟨v, ⟨cs', hcl, hk, fun j u hu => ?_⟩, ho⟩
      have hj : j < d.sz := by rw [← hcl]; exact (List.getElem?_eq_some_iff.1 hu).1
      rw [← Go.Deep.add_add, hat j hj, hu]
    have hch := fun i : Fin len => Classical.choose_spec (key i.1 i.2)
    refine ⟨List.ofFn fun i : Fin len => Classical.choose (key i.1 i.2), ⟨some a, cap, by rw [List.length_ofFn], by rw [List.length_ofFn]; exact hl, by simp, by rw [List.length_ofFn]; unfold maxLen at hcap; omega, fun _ => ⟨a, rfl, fun j p hp => ?_⟩⟩, ?_⟩
    · rw [List.getElem?_ofFn] at hp
      split at hp
      · rename_i hj
        injection hp with hp
        rw [← hp]
        exact (hch ⟨j, hj⟩).1
      · cases hp
    · intro b hb
      rw [List.mem_ofFn] at hb
      obtain ⟨i, rfl⟩ := hb
      exact (hch i).2
end
def KeyOk (k : KeyM) : Prop := Fit k ∧ 0 ≤ k.f3 ∧ k.f3 < 18446744073709551616
theorem rd_key {P : Program} {t : TypeId} {n0 n1 n2 n3 : Field} (ht : P.underlying t = some (.struct #[n0, n1, n2, n3])) (hc : P.cellsOf t = 4) (h0 : P.underlying n0.type = some .string) (h1 : P.underlying n1.type = some .string) (h2 : P.underlying n2.type = some .string) (h3 : P.underlying n3.type = some (.int .u64))
    (o0 : n0.offset = 0) (o1 : n1.offset = 1) (o2 : n2.offset = 2) (o3 : n3.offset = 3) (c0 : P.cellsOf n0.type = 1) (c1 : P.cellsOf n1.type = 1) (c2 : P.cellsOf n2.type = 1) (c3 : P.cellsOf n3.type = 1) : RdW P t PSplitCuts.k46 KeyOk := by
  intro H enc w base spare held fuel cs x hx hw
  obtain ⟨hl, hf⟩ := rdw_field ht hx hw
  rw [hc] at hl
  match cs, hl with
  | [a, b, c, d], _ =>
    obtain ⟨x0, k0, y0⟩ := hf 0 n0 rfl (RdW.string h0)
    obtain ⟨x1, k1, y1⟩ := hf 1 n1 rfl (RdW.string h1)
    obtain ⟨x2, k2, y2⟩ := hf 2 n2 rfl (RdW.string h2)
    obtain ⟨x3, k3, y3⟩ := hf 3 n3 rfl (RdW.int h3)
    rw [o0, c0] at k0
    rw [o1, c1] at k1
    rw [o2, c2] at k2
    rw [o3, c3] at k3
    refine ⟨⟨x0, x1, x2, x3⟩, ⟨[a], [b, c, d], rfl, k0, [b], [c, d], rfl, k1, [c], [d], rfl, k2, k3⟩, ⟨?_, ?_, ?_⟩, Cp.u64_wf y3⟩
    · exact Nat.le_trans y0 (by unfold reachBytes; omega)
    · exact Nat.le_trans y1 (by unfold reachBytes; omega)
    · exact Nat.le_trans y2 (by unfold reachBytes; omega)
end Go.Proofs.YtpckachmleonlaaGreatDoor
end
section
set_option linter.unusedVariables false
set_option linter.unusedSimpArgs false
namespace Go.Proofs.YtpckachmleonlaaGreatDoor
open Go.RowKit Go.Proofs.YtpckachmleonlaaGreatDoorW.PrintWords Go.ChangeShapes Go.WideShapes Go.Deep
def RdF (fuel : Nat) {α : Type} (P : Program) (t : TypeId) (d : Kd α) (ok : α → Prop) : Prop :=
  ∀ (H : Type) (enc : TypeId × Value → H) (w : World) (base : Nat) (spare : Nat → Bool) (held : Bool) (cs : List Value) (x : DataW H × List MemPlace),
    DataW.trod enc P w base spare held fuel t cs = some x → (∀ n ∈ x.1.weights P t, n ≤ reachBytes) → ∃ a, d.K w a cs ∧ ok a
theorem RdW.f {α : Type} {P : Program} {t : TypeId} {d : Kd α} {ok : α → Prop} (h : RdW P t d ok) (fuel : Nat) : RdF fuel P t d ok := fun H enc w base spare held cs x hx hw => h H enc w base spare held fuel cs x hx hw
theorem RdF.slice {fuel : Nat} {α : Type} {P : Program} {t e : TypeId} {d : Kd α} {ok : α → Prop} (ht : P.underlying t = some (.slice e)) (hC : P.cellsOf e = d.sz) (hr : ∀ n, n < fuel → RdF n P e d ok) : RdF fuel P t (Kd.slice e d) (fun l => ∀ a ∈ l, ok a) := by
  intro H enc w base spare held cs x hx hw
  rcases DataW.trod_slice ht hx with ⟨rfl, _⟩ | ⟨a, len, cap, elems, rest, n, hfu, rfl, hxe, _, hl, hcap, hlen, hel, _, _⟩
  · exact ⟨[], ⟨none, 0, rfl, Nat.le_refl _, rfl, by simp, fun h => absurd h (by simp)⟩, fun a ha => absurd ha (by simp)⟩
  · subst hxe
    have key : ∀ i, i < len → ∃ v, (∃ c, c.length = d.sz ∧ d.K w v c ∧ ∀ j u, c[j]? = some u → w.cell? (a.add (i * d.sz + j)) = some u) ∧ ok v := by
      intro i hlt
      have h1 := hel i hlt
      rw [List.getElem?_eq_getElem (by omega)] at h1
      obtain ⟨cs', hc, ht'⟩ := Option.bind_eq_some_iff.1 h1
      obtain ⟨v, hk, ho⟩ := hr n (by omega) H enc w base spare held cs' _ ht' (fun q hq => hw q (by
        rw [DataW.weights]
        simp only [ht]
        refine List.mem_cons_of_mem _ (List.mem_append_left _ (mem_all ?_ hq))
        exact List.mem_map.2 ⟨_, List.getElem_mem _, rfl⟩))
      obtain ⟨_, hcl, hat⟩ := World.cells?_some hc
      rw [hC] at hcl hat
      refine ⟨v, ⟨cs', hcl, hk, fun j u hu => ?_⟩, ho⟩
      have hj : j < d.sz := by rw [← hcl]; exact (List.getElem?_eq_some_iff.1 hu).1
      rw [← Go.Deep.add_add, hat j hj, hu]
    have hch := fun i : Fin len => Classical.choose_spec (key i.1 i.2)
    refine ⟨List.ofFn fun i : Fin len => Classical.choose (key i.1 i.2), ⟨some a, cap, by rw [List.length_ofFn], by rw [List.length_ofFn]; exact hl, by simp, by rw [List.length_ofFn]; unfold maxLen at hcap; omega, fun _ => ⟨a, rfl, fun j p hp => ?_⟩⟩, ?_⟩
    · rw [List.getElem?_ofFn] at hp
      split at hp
      · rename_i hj
        injection hp with hp
        rw [← hp]
        exact (hch ⟨j, hj⟩).1
      · cases hp
    · intro b hb
      rw [List.mem_ofFn] at hb
      obtain ⟨i, rfl⟩ := hb
      exact (hch i).2
theorem rdf_field {P : Program} {t : TypeId} {H : Type} {enc : TypeId × Value → H} {w : World} {base : Nat} {spare : Nat → Bool} {held : Bool} {fuel : Nat} {cs : List Value} {x : DataW H × List MemPlace} {fs : Array Field}
    (ht : P.underlying t = some (.struct fs)) (h : DataW.trod enc P w base spare held fuel t cs = some x) (hw : ∀ n ∈ x.1.weights P t, n ≤ reachBytes) :
    ∃ m, fuel = m + 1 ∧ cs.length = P.cellsOf t ∧ ∀ (i : Nat) (f : Field), fs[i]? = some f → ∀ {α : Type} {d : Kd α} {ok : α → Prop}, RdF m P f.type d ok → ∃ a, d.K w a ((cs.drop f.offset).take (P.cellsOf f.type)) ∧ ok a := by
  obtain ⟨xs, n, hfu, rfl, hl, hxs, hf⟩ := DataW.trod_struct ht h
  refine ⟨n, hfu, hl, fun i f hi α d ok hr => ?_⟩
  have h1 := hf i f hi
  have hlt : i < xs.length := by rw [hxs]; exact (Array.getElem?_eq_some_iff.1 hi).1
  rw [List.getElem?_eq_getElem hlt] at h1
  refine hr H enc w base spare held _ _ h1 (fun m hm => hw m ?_)
  rw [DataW.weights]
  simp only [ht]
  refine mem_each (i := i) (t := f.type) (d := xs[i].1) ?_ ?_ hm
  · rw [List.getElem?_map, Array.getElem?_toList, hi]
    rfl
  · rw [List.getElem?_map, List.getElem?_eq_getElem hlt]
    rfl
theorem rd_key46 : RdW Tryz.prog 46 PSplitCuts.k46 KeyOk := rd_key Tryz.underlying46 (by kernel_rfl) Tryz.underlying9 Tryz.underlying9 Tryz.underlying9 Tryz.underlying44 rfl rfl rfl rfl (by kernel_rfl) (by kernel_rfl) (by kernel_rfl) (by kernel_rfl)
theorem rd_bytes47 : RdW Tryz.prog 47 (Kd.slice 5 kB) (fun l => ∀ x ∈ l, (Lit.int .u8 x).wf = true) := RdW.slice Tryz.underlying47 (by kernel_rfl) (RdW.int Tryz.underlying5)
theorem cells56 : Tryz.prog.cellsOf 56 = 10 := by kernel_rfl
theorem cells46 : Tryz.prog.cellsOf 46 = 4 := by kernel_rfl
theorem cells1 : Tryz.prog.cellsOf 3 = 1 ∧ Tryz.prog.cellsOf 9 = 1 ∧ Tryz.prog.cellsOf 47 = 1 ∧ Tryz.prog.cellsOf 4 = 1 ∧ Tryz.prog.cellsOf 54 = 1 := ⟨by kernel_rfl, by kernel_rfl, by kernel_rfl, by kernel_rfl, by kernel_rfl⟩
structure MachO (o : OpM) : Prop where
  fit : ∀ m, FitO m o
  val : ∀ x ∈ o.value, 0 ≤ x ∧ x < 256
  wnt : ∀ x ∈ o.want, 0 ≤ x ∧ x < 256
theorem u8_wf {x : Int} (h : (Lit.int .u8 x).wf = true) : 0 ≤ x ∧ x < 256 := by
  simp [Lit.wf, IntKind.min, IntKind.max, IntKind.bits, IntKind.signed] at h
  omega
set_option maxRecDepth 100000 in
theorem rd_op : ∀ (fuel N : Nat), fuel ≤ N → RdF fuel Tryz.prog 56 (kO N) MachO := by
  intro fuel
  induction fuel using Nat.strongRecOn with
  | ind fuel ih =>
    intro N hN H enc w base spare held cs x hx hw
    obtain ⟨m, rfl, hl, hf⟩ := rdf_field Tryz.underlying56 hx hw
    obtain ⟨N, rfl⟩ : ∃ n, N = n + 1 := ⟨N - 1, by omega⟩
    rw [cells56] at hl
    match cs, hl with
    | [a0, a1, a2, a3, a4, a5, a6, a7, a8, a9], _ =>
      obtain ⟨x0, k0, y0⟩ := hf 0 ⟨ "Kind", 3, 0, false, "", "", 0⟩ rfl ((RdW.int Tryz.underlying3).f m)
      obtain ⟨x1, k1, y1⟩ := hf 1 ⟨ "K", 46, 1, false, "", "", 8⟩ rfl (rd_key46.f m)
      obtain ⟨x2, k2, y2⟩ := hf 2 ⟨ "To", 9, 5, false, "", "", 64⟩ rfl ((RdW.string Tryz.underlying9).f m)
      obtain ⟨x3, k3, y3⟩ := hf 3 ⟨ "Value", 47, 6, false, "", "", 80⟩ rfl (rd_bytes47.f m)
      obtain ⟨x4, k4, y4⟩ := hf 4 ⟨ "Want", 47, 7, false, "", "", 104⟩ rfl (rd_bytes47.f m)
      obtain ⟨x5, k5, y5⟩ := hf 5 ⟨ "Has", 4, 8, false, "", "", 128⟩ rfl ((RdW.bool Tryz.underlying4).f m)
      obtain ⟨x6, k6, y6⟩ := hf 6 ⟨ "Sub", 54, 9, false, "", "", 136⟩ rfl (RdF.slice (d := kO N) (ok := MachO) Tryz.underlying54 (by rw [kO_sz]; exact cells56) (fun n hn => ih n (by omega) N (by omega)))
      dsimp only at k0 k1 k2 k3 k4 k5 k6
      rw [cells1.1] at k0
      rw [cells46] at k1
      rw [cells1.2.1] at k2
      rw [cells1.2.2.1] at k3 k4
      rw [cells1.2.2.2.1] at k5
      rw [cells1.2.2.2.2] at k6
      refine ⟨⟨x0, x1, x2, x3, x4, x5, x6⟩, ⟨[a0], [a1, a2, a3, a4, a5, a6, a7, a8, a9], rfl, k0, [a1, a2, a3, a4], [a5, a6, a7, a8, a9], rfl, k1, [a5], [a6, a7, a8, a9], rfl, k2, [a6], [a7, a8, a9], rfl, k3, [a7], [a8, a9], rfl, k4, [a8], [a9], rfl, k5, k6⟩, ?_, fun x hx => u8_wf (y3 x hx), fun x hx => u8_wf (y4 x hx)⟩
      intro m
      cases m with
      | zero => trivial
      | succ m => exact ⟨y1.1, Nat.le_trans y2 (by unfold reachBytes; omega), y1.2, fun s hs => (y6 s hs).fit m⟩
theorem open_op {H : Type} {enc : TypeId × Value → H} {w : World} {base : Nat} {spare : Nat → Bool} {held : Bool} {fuel : Nat} {v : Array Value} {x : DataW H × List MemPlace} (h : DataW.trod enc Tryz.prog w base spare held fuel 56 (Value.agg v).cells.toList = some x) (hw : ∀ n ∈ x.1.weights Tryz.prog 56, n ≤ reachBytes) :
    ∃ m o A1 c1 A2 c2 A3 c3, v = opCs o A1 c1 A2 c2 A3 c3 ∧ OpAt m w o A1 c1 A2 c2 A3 c3 ∧ MachO o := by
  obtain ⟨o, hk, ho⟩ := rd_op fuel fuel (Nat.le_refl _) H enc w base spare held _ x h hw
  obtain ⟨m, A1, c1, A2, c2, A3, c3, _, e, hat⟩ := kO_open hk
  refine ⟨m, o, A1, c1, A2, c2, A3, c3, ?_, hat, ho⟩
  have e2 : v.toList = (opCs o A1 c1 A2 c2 A3 c3).toList := by simpa [Value.cells, opCs] using e
  exact Array.toList_inj.1 e2
theorem open_ops {H : Type} {enc : TypeId × Value → H} {w : World} {base : Nat} {spare : Nat → Bool} {held : Bool} {fuel : Nat} {cs : List Value} {x : DataW H × List MemPlace} (h : DataW.trod enc Tryz.prog w base spare held fuel 54 cs = some x) (hw : ∀ n ∈ x.1.weights Tryz.prog 54, n ≤ reachBytes) :
    ∃ m l A c, cs = [.slice A l.length c] ∧ l.length ≤ c ∧ Kd.C (kO m) w A l.length l ∧ ∀ o ∈ l, MachO o := by
  obtain ⟨l, ⟨A, c, e, hl, hC⟩, ho⟩ := RdF.slice (fuel := fuel) (d := kO fuel) (ok := MachO) Tryz.underlying54 (by rw [kO_sz]; exact cells56) (fun n hn => rd_op n fuel (by omega)) H enc w base spare held cs x h hw
  exact ⟨fuel, l, A, c, e, hl, hC, ho⟩
end Go.Proofs.YtpckachmleonlaaGreatDoor
end
section
set_option linter.unusedVariables false
namespace Go.Proofs.YtpckachmleonlaaGreatDoor
open Go.RowKit Go.Proofs.YtpckachmleonlaaGreatDoorW.PrintWords
theorem each_le {H : Type} {P : Program} {ts : List TypeId} {ds : List (DataW H)} (h : (DataW.weightsEach P ts ds).all (· ≤ reachBytes) = true) (i : Nat) (t : TypeId) (d : DataW H) (ht : ts[i]? = some t) (hd : ds[i]? = some d) : ∀ n ∈ d.weights P t, n ≤ reachBytes := fun n hn => by
  have h9 := List.all_eq_true.1 h n (mem_each ht hd hn)
  simpa using h9
end Go.Proofs.YtpckachmleonlaaGreatDoor
end
section
set_option linter.unusedVariables false
namespace Go.Proofs.YtpckachmleonlaaGreatDoor
open Go.RowKit Go.Proofs.YtpckachmleonlaaGreatDoorW.PrintWords
theorem tabletNils_card (m : Nat) (o : OpM) (A1 : Option Addr) (c1 : Nat) (A2 : Option Addr) (c2 : Nat) (A3 : Option Addr) (c3 : Nat) (W : World) (hat : OpAt m W o A1 c1 A2 c2 A3 c3) (ok : MachO o) :
    Calls Tryz.prog 10 #[.agg (opCs o A1 c1 A2 c2 A3 c3)] W fun e W' => e = .returned (.bool true) ∧ Below W.heap.size W W' :=
  tabletNils_law o m A1 c1 A2 c2 A3 c3 W hat ok.fit
end Go.Proofs.YtpckachmleonlaaGreatDoor
end
section
set_option linter.unusedVariables false
set_option linter.unusedSimpArgs false
namespace Go.Proofs.YtpckachmleonlaaGreatDoor
open Go.RowKit Go.Proofs.YtpckachmleonlaaGreatDoorW.PrintWords
def tabletS : ByteArray := ⟨#[116, 97, 98, 108, 101, 116]⟩
def rootM (a b : ByteArray) (cs : List CellM) : List Int := ofM tabletS [bytesOf a, bytesOf b, hashT (cs.map zDb)]
theorem C_triple {w : World} {g : Nat} {e t : TypeId} {α : Type} {d : Kd α} {A B D : Option Addr} {n m o c k j : Nat} {xs ys zs : List α} {fz : Nat × Nat} (h : w.heap[g]? = some (.cells #[.slice A n c, .slice B m k, .slice D o j] t fz)) (h1 : d.C w A n xs) (h2 : d.C w B m ys) (h3 : d.C w D o zs) (hn : n = xs.length) (hm : m = ys.length) (ho : o = zs.length) (hc : n ≤ c) (hk : m ≤ k) (hj : o ≤ j) :
    Kd.C (Kd.slice e d) w (some ⟨g, 0, none⟩) 3 [xs, ys, zs] := by
  subst hn hm ho
  refine ⟨rfl, by simp, fun _ => ⟨⟨g, 0, none⟩, rfl, fun i p hj => ?_⟩⟩
  have hj0 : i < 3 := (List.getElem?_eq_some_iff.1 hj).1
  rcases (by omega : i = 0 ∨ i = 1 ∨ i = 2) with rfl | rfl | rfl
  · obtain rfl := Option.some.inj hj
    refine ⟨[.slice A xs.length c], rfl, ⟨A, c, rfl, hc, h1⟩, fun i u hu => ?_⟩
    have hi : i < 1 := (List.getElem?_eq_some_iff.1 hu).1
    rw [add_plain, cell_of_row w g _ _ t fz h, ← hu]
    obtain rfl : i = 0 := by omega
    rfl
  · obtain rfl := Option.some.inj hj
    refine ⟨[.slice B ys.length k], rfl, ⟨B, k, rfl, hk, h2⟩, fun i u hu => ?_⟩
    have hi : i < 1 := (List.getElem?_eq_some_iff.1 hu).1
    rw [add_plain, cell_of_row w g _ _ t fz h, ← hu]
    obtain rfl : i = 0 := by omega
    rfl
  · obtain rfl := Option.some.inj hj
    refine ⟨[.slice D zs.length j], rfl, ⟨D, j, rfl, by assumption, h3⟩, fun i u hu => ?_⟩
    have hi : i < 1 := (List.getElem?_eq_some_iff.1 hu).1
    rw [add_plain, cell_of_row w g _ _ t fz h, ← hu]
    obtain rfl : i = 0 := by omega
    rfl
theorem zCb {w W : World} (h : Below w.heap.size w W) (e : TypeId) (s : ByteArray) : Below w.heap.size w (Lib.bytesWorld W e s) := bytes_below h h.size e s
theorem C_bytes (s : ByteArray) (hs : s.size ≤ 1000) (W : World) : kB.C (Lib.bytesWorld W 5 s) (some ⟨W.heap.size, 0, none⟩) s.size (bytesOf s) := Kd.C_of_reads (d := 0) (bytes_reads W 5 s (by omega))
theorem C_tripleB {w W1 W2 : World} {g k1 k2 : Nat} {e t : TypeId} {D : Option Addr} {o j : Nat} {zs : List Int} {fz : Nat × Nat} {a b : ByteArray} (h : w.heap[g]? = some (.cells #[.slice (some ⟨k1, 0, none⟩) a.size (grownCap W1 a.size 0 5), .slice (some ⟨k2, 0, none⟩) b.size (grownCap W2 b.size 0 5), .slice D o j] t fz)) (e1 : W1.heap.size = k1) (e2 : W2.heap.size = k2) (b1 : Below (Lib.bytesWorld W1 5 a).heap.size (Lib.bytesWorld W1 5 a) w) (b2 : Below (Lib.bytesWorld W2 5 b).heap.size (Lib.bytesWorld W2 5 b) w) (ha : a.size ≤ 1000) (hb : b.size ≤ 1000) (h3 : kB.C w D o zs) (ho : zs.length = o) (hj : o ≤ j) : Kd.C (Kd.slice e kB) w (some ⟨g, 0, none⟩) 3 [bytesOf a, bytesOf b, zs] := by
  subst e1 e2
  exact C_triple h (Kd.zBb (C_bytes a ha W1) b1) (Kd.zBb (C_bytes b hb W2) b2) h3 (bytesOf_len _).symm (bytesOf_len _).symm ho.symm (grownCap_ge _ _ _ _) (grownCap_ge _ _ _ _) hj
set_option maxHeartbeats 8000000 in
set_option maxRecDepth 100000 in
theorem root_tab (ok : Nat → Prop) (w : World) (p : Nat) (a b : ByteArray) (cs : List CellM) (h : TabAt ok w p a b cs) (ha : a.size ≤ 100) (hb : b.size ≤ 100) :
    Calls Tryz.prog 26 #[.pointer (some ⟨p, 0, none⟩)] w fun e w' => ∃ v, e = .returned v ∧ Kd.R kB 5 w' w.heap.size (fun _ => True) v (rootM a b cs) ∧ Below w.heap.size w w' := by
  obtain ⟨t, h1, h2⟩ := h.ex
  obtain ⟨pt, hpt⟩ := zBc t
  rw [hpt] at h1
  have HS : zAa (∀ X, Below w.heap.size w X → X.cell? ⟨p, 0, none⟩ = some (.string a) ∧ X.cell? ⟨p, 1, none⟩ = some (.string b) ∧ X.cell? ⟨p, 2, none⟩ = some (.pointer pt)) := ⟨fun X hX => ⟨(zAc (zAf h1 hX) 0).trans rfl, (zAc (zAf h1 hX) 1).trans rfl, (zAc (zAf h1 hX) 2).trans rfl⟩⟩
  have HRT : zAa (∀ X, Below w.heap.size w X → Calls Tryz.prog 47 #[.pointer pt] X fun e w' => ∃ A c, e = .returned (.slice A (hashT (cs.map zDb)).length c) ∧ (hashT (cs.map zDb)).length ≤ c ∧ kB.C w' A (hashT (cs.map zDb)).length (hashT (cs.map zDb)) ∧ Below X.heap.size X w') := ⟨fun X hX => by
    rw [← hpt]
    refine (troot_any ok t _ X (h2.keep hX)).mono ?_
    rintro e w' ⟨v, rfl, hr, hb⟩
    obtain ⟨A, c, rfl, hc, hC⟩ := Kd.zGa hr
    exact ⟨A, c, rfl, hc, hC, hb⟩⟩
  have hn := h2
  have hl := zAj h1
  have HL := zAa.mk (hashT_len (cs.map zDb))
  have ka := fun W => print_bytes (P := Tryz.prog) 9 47 5 Tryz.underlying9 Tryz.underlying47 Tryz.underlying5 a W
  have kb := fun W => print_bytes (P := Tryz.prog) 9 47 5 Tryz.underlying9 Tryz.underlying47 Tryz.underlying5 b W
  have HAB : zAa (a.size ≤ 100 ∧ b.size ≤ 100) := ⟨ha, hb⟩
  have HM : zAa (ofM tabletS [bytesOf a, bytesOf b, hashT (cs.map zDb)] = rootM a b cs) := ⟨rfl⟩
  generalize hashT (cs.map zDb) = hh at HRT HL HM
  generalize rootM a b cs = rm at HM ⊢
  obtain ⟨m, hm⟩ : ∃ m, hh.length = m := ⟨_, rfl⟩
  rw [hm] at HRT
  have HMM := zAa.mk hm
  clear h h1 h2 hn hpt ha hb hm
  go_enter Tryz.func26, Tryz.ntmps26
  go_upto_region 3 with fail
  refine wp_region_held_drew (S := fun X => X.cell? ⟨p, 0, none⟩ = some (.string a) ∧ X.cell? ⟨p, 1, none⟩ = some (.string b) ∧ X.cell? ⟨p, 2, none⟩ = some (.pointer pt)) (by kernel_rfl) (HS.out _ (zAg (Below.refl _ _))) (fun hHeld => ?_)
  (refine wpAnyH_take (i := 0) (v := ?_) rfl (by kernel_rfl) (by kernel_rfl) (by kernel_rfl) (fun _ _ _ h => h) (Or.inl ⟨by rfl, ?_⟩) (by assumption) ?_; rotate_left; (focus (intro w hSw; (try dsimp only at hSw); go_simp; (try with_reducible rfl))); (try simp only [Act.put, List.getElem_toArray, List.getElem_cons_zero, List.getElem_cons_succ, List.setIfInBounds_toArray, List.set_cons_zero, List.set_cons_succ]))
  (refine wpAnyH_take (i := 1) (v := ?_) rfl (by kernel_rfl) (by kernel_rfl) (by kernel_rfl) (fun _ _ _ h => h) (Or.inl ⟨by rfl, ?_⟩) (by assumption) ?_; rotate_left; (focus (intro w hSw; (try dsimp only at hSw); go_simp; (try with_reducible rfl))); (try simp only [Act.put, List.getElem_toArray, List.getElem_cons_zero, List.getElem_cons_succ, List.setIfInBounds_toArray, List.set_cons_zero, List.set_cons_succ]))
  (refine wpAnyH_take (i := 2) (v := ?_) rfl (by kernel_rfl) (by kernel_rfl) (by kernel_rfl) (fun _ _ _ h => h) (Or.inl ⟨by rfl, ?_⟩) (by assumption) ?_; rotate_left; (focus (intro w hSw; (try dsimp only at hSw); go_simp; (try with_reducible rfl))); (try simp only [Act.put, List.getElem_toArray, List.getElem_cons_zero, List.getElem_cons_succ, List.setIfInBounds_toArray, List.set_cons_zero, List.set_cons_succ]))
  (refine wpAnyH_take (i := 3) (v := ?_) rfl (by kernel_rfl) (by kernel_rfl) (by kernel_rfl) (fun _ _ _ h => h) (Or.inl ⟨by rfl, ?_⟩) (by assumption) ?_; rotate_left; (focus (intro w hSw; (try dsimp only at hSw); go_simp; (try with_reducible rfl))); (try simp only [Act.put, List.getElem_toArray, List.getElem_cons_zero, List.getElem_cons_succ, List.setIfInBounds_toArray, List.set_cons_zero, List.set_cons_succ]))
  (refine wpAnyH_take (i := 5) (v := ?_) rfl (by kernel_rfl) (by kernel_rfl) (by kernel_rfl) (fun _ _ _ h => h) (Or.inl ⟨by rfl, ?_⟩) (by assumption) ?_; rotate_left; (focus (intro w hSw; (try dsimp only at hSw); go_simp; (try with_reducible rfl))); (try simp only [Act.put, List.getElem_toArray, List.getElem_cons_zero, List.getElem_cons_succ, List.setIfInBounds_toArray, List.set_cons_zero, List.set_cons_succ]))
  (refine wpAnyH_take (i := 6) (v := ?_) rfl (by kernel_rfl) (by kernel_rfl) (by kernel_rfl) (fun _ _ _ h => h) (Or.inl ⟨by rfl, ?_⟩) (by assumption) ?_; rotate_left; (focus (intro w hSw; (try dsimp only at hSw); go_simp; (try with_reducible rfl))); (try simp only [Act.put, List.getElem_toArray, List.getElem_cons_zero, List.getElem_cons_succ, List.setIfInBounds_toArray, List.set_cons_zero, List.set_cons_succ]))
  (refine wpAnyH_take (i := 7) (v := ?_) rfl (by kernel_rfl) (by kernel_rfl) (by kernel_rfl) (fun _ _ _ h => h) (Or.inl ⟨by rfl, ?_⟩) (by assumption) ?_; rotate_left; (focus (intro w hSw; (try dsimp only at hSw); go_simp; (try with_reducible rfl))); (try simp only [Act.put, List.getElem_toArray, List.getElem_cons_zero, List.getElem_cons_succ, List.setIfInBounds_toArray, List.set_cons_zero, List.set_cons_succ]))
  (refine wpAnyH_take (i := 8) (v := ?_) rfl (by kernel_rfl) (by kernel_rfl) (by kernel_rfl) (fun _ _ _ h => h) (Or.inl ⟨by rfl, ?_⟩) (by assumption) ?_; rotate_left; (focus (intro w hSw; (try dsimp only at hSw); go_simp; (try with_reducible rfl))); (try simp only [Act.put, List.getElem_toArray, List.getElem_cons_zero, List.getElem_cons_succ, List.setIfInBounds_toArray, List.set_cons_zero, List.set_cons_succ]))
  (refine wpAnyH_take (i := 10) (v := ?_) rfl (by kernel_rfl) (by kernel_rfl) (by kernel_rfl) (fun _ _ _ h => h) (Or.inl ⟨by rfl, ?_⟩) (by assumption) ?_; rotate_left; (focus (intro w hSw; (try dsimp only at hSw); go_simp; (try with_reducible rfl))); (try simp only [Act.put, List.getElem_toArray, List.getElem_cons_zero, List.getElem_cons_succ, List.setIfInBounds_toArray, List.set_cons_zero, List.set_cons_succ]))
  (refine wpAnyH_take (i := 11) (v := ?_) rfl (by kernel_rfl) (by kernel_rfl) (by kernel_rfl) (fun _ _ _ h => h) (Or.inl ⟨by rfl, ?_⟩) (by assumption) ?_; rotate_left; (focus (intro w hSw; (try dsimp only at hSw); go_simp; (try with_reducible rfl))); (try simp only [Act.put, List.getElem_toArray, List.getElem_cons_zero, List.getElem_cons_succ, List.setIfInBounds_toArray, List.set_cons_zero, List.set_cons_succ]))
  (refine wpAnyH_take (i := 12) (v := ?_) rfl (by kernel_rfl) (by kernel_rfl) (by kernel_rfl) (fun _ _ _ h => h) (Or.inl ⟨by rfl, ?_⟩) (by assumption) ?_; rotate_left; (focus (intro w hSw; (try dsimp only at hSw); go_simp; (try with_reducible rfl))); (try simp only [Act.put, List.getElem_toArray, List.getElem_cons_zero, List.getElem_cons_succ, List.setIfInBounds_toArray, List.set_cons_zero, List.set_cons_succ]))
  (refine wpAnyH_take (i := 13) (v := ?_) rfl (by kernel_rfl) (by kernel_rfl) (by kernel_rfl) (fun _ _ _ h => h) (Or.inl ⟨by rfl, ?_⟩) (by assumption) ?_; rotate_left; (focus (intro w hSw; (try dsimp only at hSw); go_simp; (try with_reducible rfl))); (try simp only [Act.put, List.getElem_toArray, List.getElem_cons_zero, List.getElem_cons_succ, List.setIfInBounds_toArray, List.set_cons_zero, List.set_cons_succ]))
  refine wpAnyH_ready (rs := [4, 9, 14]) (by kernel_rfl) (by simp) ?_
  refine AllReadyH.cons rfl (fun K hK => ?_) (AllReadyH.cons rfl (fun K hK => ?_) (AllReadyH.cons rfl (fun K hK => ?_) AllReadyH.nil))
  all_goals ((try simp only [List.getElem_toArray, List.getElem_cons_zero, List.getElem_cons_succ]); go_simp; (try (go_at_call 47; with_reducible refine (HRT.out _ (by with_reducible repeat (first | exact Below.refl _ _ | refine zAg ?_ | refine zAb ?_ _ | refine zCb ?_ _ _))).mono ?_; rintro e W5 ⟨A5, c5, rfl, hc5, hC5, hb5⟩; have HR5 := zAa.mk (And.intro hc5 hC5); have HBX := zAa.mk hb5; have HB5 : zAa (Below w.heap.size w W5) := ⟨bl_to (by with_reducible repeat (first | exact Below.refl _ _ | refine zAg ?_ | refine zAb ?_ _ | refine zCb ?_ _ _)) hb5⟩; clear hc5 hC5 hb5)); refine hK.out _ _ (HS.out _ (by with_reducible repeat (first | exact Below.refl _ _ | exact HB5.out | exact HB6.out | refine zAg ?_ | refine zAb ?_ _ | refine zCb ?_ _ _))) (fun hHeld => ?_); clear hK K; (try simp only [Act.put, List.getElem_toArray, List.getElem_cons_zero, List.getElem_cons_succ, List.setIfInBounds_toArray, List.set_cons_zero, List.set_cons_succ]))
  refine wpAnyH_ready (rs := [9, 14]) (by kernel_rfl) (by simp) ?_
  refine AllReadyH.cons rfl (fun K hK => ?_) (AllReadyH.cons rfl (fun K hK => ?_) AllReadyH.nil)
  rotate_left 2
  refine wpAnyH_ready (rs := [4, 14]) (by kernel_rfl) (by simp) ?_
  refine AllReadyH.cons rfl (fun K hK => ?_) (AllReadyH.cons rfl (fun K hK => ?_) AllReadyH.nil)
  rotate_left 2
  refine wpAnyH_ready (rs := [4, 9]) (by kernel_rfl) (by simp) ?_
  refine AllReadyH.cons rfl (fun K hK => ?_) (AllReadyH.cons rfl (fun K hK => ?_) AllReadyH.nil)
  rotate_left 2
  all_goals ((try simp only [List.getElem_toArray, List.getElem_cons_zero, List.getElem_cons_succ]); go_simp; (try (go_at_call 47; with_reducible refine (HRT.out _ (by with_reducible repeat (first | exact Below.refl _ _ | refine zAg ?_ | refine zAb ?_ _ | refine zCb ?_ _ _))).mono ?_; rintro e W5 ⟨A5, c5, rfl, hc5, hC5, hb5⟩; have HR5 := zAa.mk (And.intro hc5 hC5); have HBX := zAa.mk hb5; have HB5 : zAa (Below w.heap.size w W5) := ⟨bl_to (by with_reducible repeat (first | exact Below.refl _ _ | refine zAg ?_ | refine zAb ?_ _ | refine zCb ?_ _ _)) hb5⟩; clear hc5 hC5 hb5)); refine hK.out _ _ (HS.out _ (by with_reducible repeat (first | exact Below.refl _ _ | exact HB5.out | exact HB6.out | refine zAg ?_ | refine zAb ?_ _ | refine zCb ?_ _ _))) (fun hHeld => ?_); clear hK K; (try simp only [Act.put, List.getElem_toArray, List.getElem_cons_zero, List.getElem_cons_succ, List.setIfInBounds_toArray, List.set_cons_zero, List.set_cons_succ]))
  refine wpAnyH_ready (rs := [14]) (by kernel_rfl) (by simp) ?_
  rotate_left
  refine wpAnyH_ready (rs := [9]) (by kernel_rfl) (by simp) ?_
  rotate_left
  refine wpAnyH_ready (rs := [14]) (by kernel_rfl) (by simp) ?_
  rotate_left
  refine wpAnyH_ready (rs := [4]) (by kernel_rfl) (by simp) ?_
  rotate_left
  refine wpAnyH_ready (rs := [9]) (by kernel_rfl) (by simp) ?_
  rotate_left
  refine wpAnyH_ready (rs := [4]) (by kernel_rfl) (by simp) ?_
  rotate_left
  all_goals (
    refine AllReadyH.cons rfl (fun K hK => ?_) AllReadyH.nil
    ((try simp only [List.getElem_toArray, List.getElem_cons_zero, List.getElem_cons_succ]); go_simp; (try (go_at_call 47; with_reducible refine (HRT.out _ (by with_reducible repeat (first | exact Below.refl _ _ | refine zAg ?_ | refine zAb ?_ _ | refine zCb ?_ _ _))).mono ?_; rintro e W5 ⟨A5, c5, rfl, hc5, hC5, hb5⟩; have HR5 := zAa.mk (And.intro hc5 hC5); have HBX := zAa.mk hb5; have HB5 : zAa (Below w.heap.size w W5) := ⟨bl_to (by with_reducible repeat (first | exact Below.refl _ _ | refine zAg ?_ | refine zAb ?_ _ | refine zCb ?_ _ _)) hb5⟩; clear hc5 hC5 hb5)); refine hK.out _ _ (HS.out _ (by with_reducible repeat (first | exact Below.refl _ _ | exact HB5.out | exact HB6.out | refine zAg ?_ | refine zAb ?_ _ | refine zCb ?_ _ _))) (fun hHeld => ?_); clear hK K; (try simp only [Act.put, List.getElem_toArray, List.getElem_cons_zero, List.getElem_cons_succ, List.setIfInBounds_toArray, List.set_cons_zero, List.set_cons_succ]))
    refine wpAnyH_ready (rs := [15]) (by kernel_rfl) (by simp) ?_
    refine AllReadyH.cons rfl (fun K hK => ?_) AllReadyH.nil
    ((try simp only [List.getElem_toArray, List.getElem_cons_zero, List.getElem_cons_succ]); go_simp; (try (go_at_call 47; with_reducible refine (HRT.out _ (by with_reducible repeat (first | exact Below.refl _ _ | refine zAg ?_ | refine zAb ?_ _ | refine zCb ?_ _ _))).mono ?_; rintro e W5 ⟨A5, c5, rfl, hc5, hC5, hb5⟩; have HR5 := zAa.mk (And.intro hc5 hC5); have HBX := zAa.mk hb5; have HB5 : zAa (Below w.heap.size w W5) := ⟨bl_to (by with_reducible repeat (first | exact Below.refl _ _ | refine zAg ?_ | refine zAb ?_ _ | refine zCb ?_ _ _)) hb5⟩; clear hc5 hC5 hb5)); refine hK.out _ _ (HS.out _ (by with_reducible repeat (first | exact Below.refl _ _ | exact HB5.out | exact HB6.out | refine zAg ?_ | refine zAb ?_ _ | refine zCb ?_ _ _))) (fun hHeld => ?_); clear hK K; (try simp only [Act.put, List.getElem_toArray, List.getElem_cons_zero, List.getElem_cons_succ, List.setIfInBounds_toArray, List.set_cons_zero, List.set_cons_succ]))
    refine wpAnyH_ready (rs := [16]) (by kernel_rfl) (by simp) ?_
    refine AllReadyH.cons rfl (fun K hK => ?_) AllReadyH.nil
    ((try simp only [List.getElem_toArray, List.getElem_cons_zero, List.getElem_cons_succ]); go_simp; (go_at_call 61; refine (of_any tabletS _ 3 [bytesOf a, bytesOf b, hh] _ (C_tripleB (heap_alloc_new _ _) (by rfl) (by rfl) (by with_reducible repeat (first | exact Below.refl _ _ | refine bl_to ?_ HBX.out | refine zAg ?_ | refine zAb ?_ _ | refine zCb ?_ _ _)) (by with_reducible repeat (first | exact Below.refl _ _ | refine bl_to ?_ HBX.out | refine zAg ?_ | refine zAb ?_ _ | refine zCb ?_ _ _)) (by have := HAB.out; omega) (by have := HAB.out; omega) (Kd.zBb HR5.out.2 (by with_reducible repeat (first | exact Below.refl _ _ | refine bl_to ?_ HBX.out | refine zAg ?_ | refine zAb ?_ _ | refine zCb ?_ _ _))) HMM.out HR5.out.1) (by decide) (by simp) (by have h1 := HL.out; have h2 := HAB.out; simp only [List.mem_cons, List.not_mem_nil, or_false, forall_eq_or_imp, forall_eq, bytesOf_len]; omega)).mono ?_; rintro e W6 ⟨v6, rfl, hr6, hb6⟩; have HR6 := zAa.mk (rl_to (w2 := w) (by with_reducible repeat (first | exact Below.refl _ _ | refine bl_to ?_ HBX.out | refine zAg ?_ | refine zAb ?_ _ | refine zCb ?_ _ _)) hr6); have HB6 := zAa.mk (bl_to (w2 := w) (by with_reducible repeat (first | exact Below.refl _ _ | refine bl_to ?_ HBX.out | refine zAg ?_ | refine zAb ?_ _ | refine zCb ?_ _ _)) hb6); clear hr6 hb6); refine hK.out _ _ (HS.out _ (by with_reducible repeat (first | exact Below.refl _ _ | exact HB5.out | exact HB6.out | refine zAg ?_ | refine zAb ?_ _ | refine zCb ?_ _ _))) (fun hHeld => ?_); clear hK K; (try simp only [Act.put, List.getElem_toArray, List.getElem_cons_zero, List.getElem_cons_succ, List.setIfInBounds_toArray, List.set_cons_zero, List.set_cons_succ]))
    (refine wpAnyH_take (i := 17) (v := ?_) rfl (by kernel_rfl) (by kernel_rfl) (by kernel_rfl) (fun _ _ _ h => h) (Or.inl ⟨by rfl, ?_⟩) (by assumption) ?_; rotate_left; (focus (intro w hSw; (try dsimp only at hSw); go_simp; (try with_reducible rfl))); (try simp only [Act.put, List.getElem_toArray, List.getElem_cons_zero, List.getElem_cons_succ, List.setIfInBounds_toArray, List.set_cons_zero, List.set_cons_succ]))
    refine wpAnyH_done (by kernel_rfl) ?_ _)
  all_goals (
    obtain ⟨A6, c6, e6⟩ := Kd.zAk HR6.out
    subst e6
    go_wp2_with fail
    go_ret
    refine ⟨_, rfl, ?_, HB6.out⟩
    rw [← HM.out]
    exact HR6.out)
end Go.Proofs.YtpckachmleonlaaGreatDoor
end
section
set_option linter.unusedVariables false
set_option linter.unusedSimpArgs false
namespace Go.Proofs.YtpckachmleonlaaGreatDoor
open Go.RowKit Go.Proofs.YtpckachmleonlaaGreatDoorW.PrintWords
theorem rootM_len (a b : ByteArray) (cs : List CellM) : (rootM a b cs).length = 32 := ofM_len _ _
end Go.Proofs.YtpckachmleonlaaGreatDoor
end
