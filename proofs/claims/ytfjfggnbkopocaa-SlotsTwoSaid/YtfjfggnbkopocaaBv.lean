/- Slots: two logs in memory. -/
import Derived.Test.YtfjfggnbkopocaaBu
import Derived.Test.YtfjfggnbkopocaaBq
/- Two logs. -/
set_option linter.unusedVariables false
set_option linter.unusedSimpArgs false
namespace Go.Proofs.Ytfjfggnbkopocaa
open Go.RowKit Go.Proofs.YtfjfggnbkopocaaW.PrintWords PSlotsTwo
attribute [local go_sem] ptr

def kR : Kd ROp := Kd.iso (Kd.pair (Kd.int .i64) (Kd.pair (Kd.int .u64) (Kd.pair (Kd.int .u64) (Kd.scalar (fun t : Option Addr × Nat × Nat => Value.slice t.1 t.2.1 t.2.2) (fun _ => rfl))))) (fun x : ROp => (x.f0, x.f1, x.f2, (x.A, x.sum.length, x.c)))
def cellsR (x : ROp) : List Value := [.int .i64 x.f0, .int .u64 x.f1, .int .u64 x.f2, .slice x.A x.sum.length x.c]
theorem kR_open {w : World} {x : ROp} {cs : List Value} (h : kR.K w x cs) : cs = cellsR x := by
  obtain ⟨_, _, rfl, rfl, ⟨_, _, rfl, rfl, ⟨_, _, rfl, rfl, rfl⟩⟩⟩ := h
  rfl
theorem kR_mk (w : World) (x : ROp) : kR.K w x (cellsR x) := ⟨[.int .i64 x.f0], [.int .u64 x.f1, .int .u64 x.f2, .slice x.A x.sum.length x.c], rfl, rfl, ⟨[.int .u64 x.f1], [.int .u64 x.f2, .slice x.A x.sum.length x.c], rfl, rfl, ⟨[.int .u64 x.f2], [.slice x.A x.sum.length x.c], rfl, rfl, rfl⟩⟩⟩
theorem kR_mkM (w : World) (base : Nat) (ok : Nat → Prop) (x : ROp) : kR.M w base ok x (cellsR x) := ⟨[.int .i64 x.f0], [.int .u64 x.f1, .int .u64 x.f2, .slice x.A x.sum.length x.c], rfl, rfl, ⟨[.int .u64 x.f1], [.int .u64 x.f2, .slice x.A x.sum.length x.c], rfl, rfl, ⟨[.int .u64 x.f2], [.slice x.A x.sum.length x.c], rfl, rfl, rfl⟩⟩⟩
theorem kR_KM {w w' : World} {base : Nat} {ok : Nat → Prop} {x : ROp} {cs : List Value} (h : kR.K w x cs) : kR.M w' base ok x cs := by rw [kR_open h]; exact kR_mkM _ _ _ _
theorem kR_types : ∀ q ∈ 33 :: kR.E, q ≠ 59 ∧ q ≠ 67 ∧ q ≠ 93 := by decide
theorem kR_ok {w : World} {base : Nat} {ok ok' : Nat → Prop} {v : Value} {xs : List ROp} (h : kR.R 33 w base ok v xs) (h' : ∀ k, v.ownBlock = some k → ok' k) : kR.R 33 w base ok' v xs := ⟨h', h.2.imp_ (fun _ _ hp => kR_KM (w := w) (Kd.K_of_M _ hp))⟩
theorem info33 : (Try.prog.info? 33).map (fun i => (i.zero, i.size, i.bytes)) = some (some (.agg #[.int .i64 0, .int .u64 0, .int .u64 0, .slice none 0 0]), 4, 48) := by kernel_rfl
theorem rop_at {w : World} {A : Option Addr} {l : List ROp} (h : kR.C w A l.length l) (i : Nat) (hi : i < l.length) : ∃ ad, A = some ad ∧
    w.cell? (ad.add (i * 4)) = some (.int .i64 l[i].f0) ∧ w.cell? ⟨(ad.add (i * 4)).block, (ad.add (i * 4)).off + 1, none⟩ = some (.int .u64 l[i].f1) ∧ w.cell? ⟨(ad.add (i * 4)).block, (ad.add (i * 4)).off + 2, none⟩ = some (.int .u64 l[i].f2) ∧ w.cell? ⟨(ad.add (i * 4)).block, (ad.add (i * 4)).off + 3, none⟩ = some (.slice l[i].A l[i].sum.length l[i].c) := by
  obtain ⟨ad, c1, e, _, hK, hc0⟩ := Kd.C_get h ⟨0, 0, 0, none, 0, []⟩ (i : Int) (by omega) (by omega)
  have e1 : l.getD (i : Int).toNat ⟨0, 0, 0, none, 0, []⟩ = l[i] := by
    rw [Int.toNat_natCast, List.getD_eq_getElem?_getD, List.getElem?_eq_getElem hi]
    rfl
  rw [e1] at hK
  rw [Int.toNat_natCast] at hc0
  have hc : ∀ t u, c1[t]? = some u → w.cell? (ad.add (i * 4 + t)) = some u := hc0
  rw [kR_open hK] at hc
  exact ⟨ad, e, hc 0 _ rfl, by rw [← add_field _ _ 1 (by omega)]; exact hc 1 _ rfl, by rw [← add_field _ _ 2 (by omega)]; exact hc 2 _ rfl, by rw [← add_field _ _ 3 (by omega)]; exact hc 3 _ rfl⟩
/-- An operation of the arguments. -/
structure okRO (w : World) (x : ROp) : Prop where
  f1 : (Lit.int .u64 x.f1).wf = true
  f2 : (Lit.int .u64 x.f2).wf = true
  bytes : isB x.sum
  len : x.sum.length ≤ 100
  cap : x.sum.length ≤ x.c
  read : kB.C w x.A x.sum.length x.sum
theorem okRO.op {w : World} {x : ROp} (h : okRO w x) : okO (opR x) := ⟨(u64_of h.f1).1, (u64_of h.f2).1, (u64_of h.f2).2, h.len⟩
/-- The rows of an argument. -/
theorem reads_ops {w : World} {A : Option Addr} {l : List S33} (h : Kd.C k33 w A l.length l) (hok : ∀ x ∈ l, opOk x) (hl : lightB 60 l = true) : ∃ ys : List ROp, ys.length = l.length ∧ kR.C w A ys.length ys ∧ ∀ y ∈ ys, okRO w y := by
  have key : ∀ i, i < l.length → ∃ y : ROp, okRO w y ∧ ∃ ad, A = some ad ∧ ∀ t u, (cellsR y)[t]? = some u → w.cell? (ad.add (i * 4 + t)) = some u := by
    intro i hi
    obtain ⟨ad, c, e, _, hK, hc0⟩ := Kd.C_get h z33 (i : Int) (by omega) (by omega)
    have e1 : l.getD (i : Int).toNat z33 = l[i] := by
      rw [Int.toNat_natCast, List.getD_eq_getElem?_getD, List.getElem?_eq_getElem hi]
      rfl
    rw [e1] at hK
    rw [Int.toNat_natCast] at hc0
    obtain ⟨A3, c3, rfl, l3, g3⟩ := k33_open hK
    have hx := hok l[i] (List.getElem_mem hi)
    have ho := okO_of hl (List.getElem_mem hi) hx
    exact ⟨⟨l[i].f0, l[i].f1, l[i].f2, A3, c3, l[i].f3⟩, ⟨hx.2.1, hx.2.2.1, ho.2, ho.1.sum, l3, g3⟩, ad, e, hc0⟩
  have hch := fun i : Fin l.length => Classical.choose_spec (key i.1 i.2)
  refine ⟨List.ofFn fun i : Fin l.length => Classical.choose (key i.1 i.2), by simp, ⟨rfl, by rw [List.length_ofFn]; exact h.2.1, fun h0 => ?_⟩, fun y hy => ?_⟩
  · rw [List.length_ofFn] at h0
    obtain ⟨_, ad0, e0, _⟩ := hch ⟨0, h0⟩
    refine ⟨ad0, e0, fun j p hp => ?_⟩
    rw [List.getElem?_ofFn] at hp
    split at hp
    · rename_i hj
      injection hp with hp
      obtain ⟨_, ad, e, hcell⟩ := hch ⟨j, hj⟩
      rw [e0] at e
      obtain rfl := Option.some.inj e
      rw [← hp]
      exact ⟨_, rfl, kR_mk _ _, hcell⟩
    · cases hp
  · rw [List.mem_ofFn] at hy
    obtain ⟨i, rfl⟩ := hy
    exact (hch i).1
/-- Two logs apart. -/
structure Duo (w0 w : World) (la ma lb mb : Nat) (f : Int) (Ma Mb : LM) : Prop where
  below : Below w0.heap.size w0 w
  logs : ∃ ea eb, LogAt w la ma f Ma.low Ma.view ea ∧ absL ea = Ma.L ∧ (∀ x ∈ foot la ma ea, w0.heap.size ≤ x) ∧ LogAt w lb mb f Mb.low Mb.view eb ∧ absL eb = Mb.L ∧ (∀ x ∈ foot lb mb eb, w0.heap.size ≤ x) ∧ ∀ x ∈ foot la ma ea, x ∉ foot lb mb eb
section
variable {w0 w w' : World} {la ma lb mb : Nat} {f : Int} {Ma Mb : LM}
theorem Duo.swap (h : Duo w0 w la ma lb mb f Ma Mb) : Duo w0 w lb mb la ma f Mb Ma := by
  obtain ⟨hb, ea, eb, a1, a2, a3, b1, b2, b3, c⟩ := h
  exact ⟨hb, eb, ea, b1, b2, b3, a1, a2, a3, fun x hx hin => c x hin hx⟩
theorem Duo.keep (h : Duo w0 w la ma lb mb f Ma Mb) (hb : Below w.heap.size w w') : Duo w0 w' la ma lb mb f Ma Mb := by
  obtain ⟨h0, ea, eb, a1, a2, a3, b1, b2, b3, c⟩ := h
  exact ⟨h0.trans (hb.mono h0.size), ea, eb, a1.keep hb, a2, a3, b1.keep hb, b2, b3, c⟩
theorem Duo.a (h : Duo w0 w la ma lb mb f Ma Mb) : St w0 w la ma f Ma := by
  obtain ⟨h0, ea, eb, a1, a2, a3, _⟩ := h
  exact ⟨h0, ea, a1, a2, a3⟩
theorem Duo.b (h : Duo w0 w la ma lb mb f Ma Mb) : St w0 w lb mb f Mb := h.swap.a
theorem one_duo (h : Duo w0 w la ma lb mb f Ma Mb) (hM : okM Ma) (h1 : 1 ≤ f) (h4 : f ≤ 4) (o : OpM) (ho : okO o) (A : Option Addr) (c : Nat) (hlc : o.sum.length ≤ c) (hC : kB.C w0 A o.sum.length o.sum) :
    Calls Try.prog 11 #[ptr la, .agg #[.int .i64 o.kind, .int .u64 o.from_, .int .u64 o.seq, .slice A o.sum.length c]] w fun r w' => r = .returned (.int .i64 (stepM f Ma o).1) ∧ Duo w0 w' la ma lb mb f (stepM f Ma o).2 Mb ∧ Calm w w' := by
  obtain ⟨h0, ea, eb, a1, a2, a3, b1, b2, b3, c0⟩ := h
  refine (one_left ea h0 a1 a2 a3 hM h1 h4 o ho A c hlc hC).mono ?_
  rintro r w' ⟨rfl, ⟨ea', h5, h6, h7⟩, h8⟩
  refine ⟨rfl, ⟨h0.trans (h8.below h0.size a3), ea', eb, h5, h6, fun x hx => ?_, b1.fr h8 a1.mut (fun x hx hin => c0 x hin hx), b2, b3, fun x hx hin => ?_⟩, _, h8, a1.mut⟩
  · rcases h7 x hx with h9 | h9
    · exact a3 x h9
    · exact Nat.le_trans h0.size h9
  · rcases h7 x hx with h9 | h9
    · exact c0 x h9 hin
    · have := b1.lt hin
      omega
theorem Duo.new {w1 w2 : World} (hw1 : LogAt w1 (w.heap.size + 1) w.heap.size f 0 0 []) (hb1 : Below w.heap.size w w1) (hw2 : LogAt w2 (w1.heap.size + 1) w1.heap.size f 0 0 []) (hb2 : Below w1.heap.size w1 w2) : Duo w w2 (w.heap.size + 1) w.heap.size (w1.heap.size + 1) w1.heap.size f M0 M0 := by
  have h5 := hw1.lt (b := w.heap.size + 1) (by simp [foot])
  have h6 := hb1.size
  refine ⟨hb1.trans (hb2.mono h6), [], [], hw1.keep hb2, rfl, ?_, hw2, rfl, ?_, ?_⟩
  · intro x hx
    simp [foot] at hx
    omega
  · intro x hx
    simp [foot] at hx
    omega
  · intro x hx hin
    simp [foot] at hx hin
    omega
end
/-- What the law of two logs keeps. -/
structure TwoAt (w0 w : World) (la ma lb mb : Nat) (f : Int) (F : List Int) (v13 v14 : Value) (all said : List ROp) (Ma Mb : LM) : Prop where
  duo : Duo w0 w la ma lb mb f Ma Mb
  ia : Inv f Ma
  ib : Inv f Mb
  ha : HV f F said Ma
  hb : HV f F said Mb
  su : SU said
  ok : ∀ e ∈ said, okRO w0 e
  rs : kR.R 33 w 0 (fun k => v14.ownBlock ≠ some k ∧ w0.heap.size ≤ k) v13 said
  ra : kR.R 33 w 0 (fun k => v14.ownBlock = some k) v14 all
section
variable {w0 w w' : World} {la ma lb mb : Nat} {f : Int} {F : List Int} {v13 v14 : Value} {all said : List ROp} {Ma Mb : LM}
theorem TwoAt.keep (h : TwoAt w0 w la ma lb mb f F v13 v14 all said Ma Mb) (hb : Below w.heap.size w w') : TwoAt w0 w' la ma lb mb f F v13 v14 all said Ma Mb :=
  ⟨h.duo.keep hb, h.ia, h.ib, h.ha, h.hb, h.su, h.ok, Kd.R_below h.rs hb, Kd.R_below h.ra hb⟩
theorem Duo.soft {G : List Nat} (h : Duo w0 w la ma lb mb f Ma Mb) (hF : Fr G w w') (hm : ∀ b ∈ G, Soft w b) (hB : ∀ b ∈ G, w0.heap.size ≤ b) (hn : ∀ b ∈ G, ¬ Mut w b) : Duo w0 w' la ma lb mb f Ma Mb := by
  obtain ⟨h0, ea, eb, a1, a2, a3, b1, b2, b3, c⟩ := h
  exact ⟨h0.trans (hF.below h0.size hB), ea, eb, a1.soft hF hm (fun b hb hin => hn b hin (a1.mut b hb)), a2, a3, b1.soft hF hm (fun b hb hin => hn b hin (b1.mut b hb)), b2, b3, c⟩
theorem TwoAt.push {v : Value} {y : ROp} (h : TwoAt w0 w la ma lb mb f F v13 v14 all said Ma Mb) (hg : w.grownBy w' v13.ownBlock) (hr : kR.R 33 w' 0 (fun k => v14.ownBlock ≠ some k ∧ w0.heap.size ≤ k) v (said ++ [y])) (hy : okRO w0 y) (hn : said.any (fun e => keyB e y) = false) : TwoAt w0 w' la ma lb mb f F v v14 all (said ++ [y]) Ma Mb := by
  have hd : Duo w0 w' la ma lb mb f Ma Mb := by
    obtain ⟨inner, hown⟩ := Kd.R_own h.rs
    rcases hown.2 with ⟨h0, _⟩ | ⟨g, cap, cur, hv, _, hgb, _⟩
    · subst h0
      exact h.duo.soft (G := []) (Fr.of_none hg) (by simp) (by simp) (by simp)
    · have hk := h.rs.1 g (by rw [hv]; rfl)
      subst hv
      refine h.duo.soft (G := [g]) (Fr.of_grown hg) (fun b hb cs t fz hc => ?_) (fun b hb => by rw [List.mem_singleton.1 hb]; exact hk.2) (fun b hb hm => ?_)
      · rw [List.mem_singleton.1 hb, hgb] at hc
        injection hc with hc
        injection hc with _ hc
        rw [← hc]
        decide
      · rw [List.mem_singleton.1 hb] at hm
        exact hm.not hgb (by decide) (by decide) (by decide)
  refine ⟨hd, h.ia, h.ib, HV_more h.ha y, HV_more h.hb y, SU_push h.su hn, fun e he => ?_, hr, Kd.R_grown h.ra hg (fun k hk e => ?_)⟩
  · rcases List.mem_append.1 he with he | he
    · exact h.ok e he
    · rw [List.mem_singleton.1 he]
      exact hy
  · exact (h.rs.1 k e.symm).1 hk
theorem TwoAt.stepA (h : TwoAt w0 w la ma lb mb f F v13 v14 all said Ma Mb) (h1 : 1 ≤ f) (h4 : f ≤ 4) (o : ROp) (ho : okRO w0 o) (hs : o.f0 = 2 → faultyB F o.f1 = false → ∃ e ∈ said, e.f0 = 2 ∧ e.f1 = o.f1 ∧ e.f2 = o.f2 ∧ e.sum = o.sum) :
    Calls Try.prog 11 #[ptr la, .agg #[.int .i64 o.f0, .int .u64 o.f1, .int .u64 o.f2, .slice o.A o.sum.length o.c]] w fun r w' => (∃ k, r = .returned (.int .i64 k)) ∧ TwoAt w0 w' la ma lb mb f F v13 v14 all said (stepM f Ma (opR o)).2 Mb := by
  refine (one_duo h.duo h.ia.ok h1 h4 (opR o) ho.op o.A o.c ho.cap ho.read).mono ?_
  rintro r w' ⟨rfl, hd, hc⟩
  exact ⟨⟨_, rfl⟩, hd, h.ia.step h1 ho.op ho.bytes, h.ib, HV_step h.ha ho.op hs, h.hb, h.su, h.ok, hc.row h.rs kR_types, hc.row h.ra kR_types⟩
theorem TwoAt.stepB (h : TwoAt w0 w la ma lb mb f F v13 v14 all said Ma Mb) (h1 : 1 ≤ f) (h4 : f ≤ 4) (o : ROp) (ho : okRO w0 o) (hs : o.f0 = 2 → faultyB F o.f1 = false → ∃ e ∈ said, e.f0 = 2 ∧ e.f1 = o.f1 ∧ e.f2 = o.f2 ∧ e.sum = o.sum) :
    Calls Try.prog 11 #[ptr lb, .agg #[.int .i64 o.f0, .int .u64 o.f1, .int .u64 o.f2, .slice o.A o.sum.length o.c]] w fun r w' => (∃ k, r = .returned (.int .i64 k)) ∧ TwoAt w0 w' la ma lb mb f F v13 v14 all said Ma (stepM f Mb (opR o)).2 := by
  refine (one_duo h.duo.swap h.ib.ok h1 h4 (opR o) ho.op o.A o.c ho.cap ho.read).mono ?_
  rintro r w' ⟨rfl, hd, hc⟩
  exact ⟨⟨_, rfl⟩, hd.swap, h.ia, h.ib.step h1 ho.op ho.bytes, h.ha, HV_step h.hb ho.op hs, h.su, h.ok, hc.row h.rs kR_types, hc.row h.ra kR_types⟩
theorem TwoAt.nop (h : TwoAt w0 w la ma lb mb f F v13 v14 all said Ma Mb) : w0.heap.size ≤ w.heap.size := h.duo.below.size
end
theorem faulty_take (F : List Int) (x : Int) (i : Nat) (hi : i < F.length) : faultyB (F.take (i + 1)) x = (faultyB (F.take i) x || (rd F (i : Int) == x)) := by
  unfold faultyB rd
  rw [List.take_add_one, List.any_append, List.getElem?_eq_getElem hi, Int.toNat_natCast, List.getD_eq_getElem?_getD, List.getElem?_eq_getElem hi]
  simp
theorem any_take (said : List ROp) (o : ROp) (i : Nat) (hi : i < said.length) : (said.take (i + 1)).any (fun e => keyB e o) = ((said.take i).any (fun e => keyB e o) || keyB said[i] o) := by
  rw [List.take_add_one, List.any_append, List.getElem?_eq_getElem hi]
  simp
theorem look_take (said : List ROp) (o : ROp) (i : Nat) (hi : i < said.length) : look (said.take (i + 1)) o = if keyB said[i] o then takeS said[i] (look (said.take i) o) else look (said.take i) o := by
  rw [List.take_add_one, List.getElem?_eq_getElem hi]
  exact look_snoc _ _ _
/-- What is told of an operation, and what was said of it. -/
theorem said_of {said : List ROp} {o : ROp} (h : said.any (fun e => keyB e o) = true) : ∃ e ∈ said, e.f0 = (look said o).f0 ∧ e.f1 = (look said o).f1 ∧ e.f2 = (look said o).f2 ∧ e.sum = (look said o).sum := by
  obtain ⟨e, h1, h2, h3⟩ := look_some said h
  obtain ⟨k0, k1, k2⟩ := look_same said o
  rw [keyB_eq] at h2
  exact ⟨e, h1, by rw [k0]; exact h2.1, by rw [k1]; exact h2.2.1, by rw [k2]; exact h2.2.2, h3.symm⟩
theorem okRO_look {w : World} {said : List ROp} {o : ROp} (ho : okRO w o) (hs : ∀ e ∈ said, okRO w e) : okRO w (look said o) :=
  look_any (P := okRO w) ho hs (fun e a he ha => ⟨ha.f1, ha.f2, he.bytes, he.len, he.cap, he.read⟩)
end Go.Proofs.Ytfjfggnbkopocaa
