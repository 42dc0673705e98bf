/- Cell: the bytes of a key. -/
import Derived.Test.YtfdnpnaacikgdaaDoorI
import Derived.Deep.RegionWith
/- Bytes. -/
set_option linter.unusedVariables false
set_option linter.unusedSimpArgs false
namespace Go.Proofs.YtfdnpnaacikgdaaDoor
open Go.RowKit Go.Proofs.YtfdnpnaacikgdaaDoorW.PrintWords

theorem okB_sizes {a b c : ByteArray} (h : okB a b c = true) : a.size ≤ 1000 ∧ b.size ≤ 1000 ∧ c.size ≤ 1000 := by
  have := of_decide_eq_true h
  omega
theorem rightI_ok {a b c : ByteArray} (h : okB a b c = true) : rightI a b c = 0 := by unfold rightI; rw [h]; rfl
theorem rightI_bad {a b c : ByteArray} (h : okB a b c = false) : rightI a b c = 5 := by unfold rightI; rw [h]; rfl
theorem bl_to {X W w2 : World} (hw : Below X.heap.size X W) (hb : Below W.heap.size W w2) : Below X.heap.size X w2 := hw.trans (hb.mono hw.size)
theorem bl_lower {X W w2 : World} {B : Nat} {v : Value} {l : List Int} (hw : Below X.heap.size X W) (hr : Kd.R kB 5 w2 W.heap.size (fun _ => True) v l) (hX : B ≤ X.heap.size) : Kd.R kB 5 w2 B (fun _ => True) v l := Kd.R_lower hr (Nat.le_trans hX hw.size)
theorem bcell {W w1 : World} (hb : Below W.heap.size W w1) : (∀ b o, b < W.heap.size → w1.cell? ⟨b, o, none⟩ = W.cell? ⟨b, o, none⟩) ∧ (∀ b o, b < W.heap.size → w1.frozen? ⟨b, o, none⟩ = W.frozen? ⟨b, o, none⟩) :=
  ⟨fun b o h => hb.cell (p := ⟨b, o, none⟩) h, fun b o h => hb.frozen (p := ⟨b, o, none⟩) h⟩
theorem escL_length (s : ByteArray) (h : s.size ≤ 1000) : (nums (escL s)).length ≤ 2002 := by
  rw [nums_length]
  unfold escL
  rw [List.length_append, rep_length]
  have h1 : s.data.toList.count 0 ≤ s.data.toList.length := List.count_le_length
  rw [data_length] at h1 ⊢
  simp only [List.length_cons, List.length_nil]
  omega

theorem C_rows3 {w : World} {b : Nat} {A1 A2 A3 : Option Addr} {c1 c2 c3 : Nat} {l1 l2 l3 : List Int} (hb : w.heap[b]? = some (.cells #[.slice A1 l1.length c1, .slice A2 l2.length c2, .slice A3 l3.length c3] 27 (0, 0)))
    (h1 : l1.length ≤ c1) (h2 : l2.length ≤ c2) (h3 : l3.length ≤ c3) (k1 : kB.C w A1 l1.length l1) (k2 : kB.C w A2 l2.length l2) (k3 : kB.C w A3 l3.length l3) : Kd.C (Kd.slice 5 kB) w (some ⟨b, 0, none⟩) [l1, l2, l3].length [l1, l2, l3] := by
  refine ⟨rfl, by simp, fun _ => ⟨_, rfl, fun j p hj => ?_⟩⟩
  have hj3 : j < 3 := (List.getElem?_eq_some_iff.1 hj).1
  have hc : ∀ v, (#[Value.slice A1 l1.length c1, Value.slice A2 l2.length c2, Value.slice A3 l3.length c3] : Array Value)[j]? = some v → ∀ i u, [v][i]? = some u → w.cell? ((⟨b, 0, none⟩ : Addr).add (j * 1 + i)) = some u := by
    intro v hv i u hu
    have hi : i = 0 := by
      have := (List.getElem?_eq_some_iff.1 hu).1
      simpa using this
    subst hi
    simp only [List.getElem?_cons_zero, Option.some.injEq] at hu
    subst hu
    rw [add_plain, blk_cell hb]
    simpa using hv
  rcases (by omega : j = 0 ∨ j = 1 ∨ j = 2) with rfl | rfl | rfl
  · obtain rfl := Option.some.inj hj
    exact ⟨[.slice A1 l1.length c1], rfl, ⟨A1, c1, rfl, h1, k1⟩, hc _ rfl⟩
  · obtain rfl := Option.some.inj hj
    exact ⟨[.slice A2 l2.length c2], rfl, ⟨A2, c2, rfl, h2, k2⟩, hc _ rfl⟩
  · obtain rfl := Option.some.inj hj
    exact ⟨[.slice A3 l3.length c3], rfl, ⟨A3, c3, rfl, h3, k3⟩, hc _ rfl⟩
theorem R_cap {w : World} {e base : Nat} {ok : Nat → Prop} {A : Option Addr} {n c : Nat} {l : List Int} (h : Kd.R kB e w base ok (.slice A n c) l) : l.length ≤ c ∧ kB.C w A l.length l := by
  obtain ⟨A', c', he, h1, h2⟩ := Kd.R_reads h
  injection he with e1 e2 e3
  subst e1 e3
  exact ⟨h1, h2⟩
def keyL (r f q : ByteArray) : List Int := nums (escL r) ++ nums (escL f) ++ nums (escL q)
theorem blk_new2 (w : World) (a b : Obj) : ((w.alloc a).alloc b).heap[w.heap.size + 1]? = some b := by
  have := heap_alloc_new (w.alloc a) b
  rwa [World.size_alloc] at this
/-- The time's eight bytes, the greatest first. -/
def timeX (t : Int) : Int := IntKind.u64.wrap (18446744073709551615 - t)
theorem u64_nonneg (t : Int) : 0 ≤ IntKind.u64.wrap t := by
  unfold IntKind.wrap
  simp only []
  exact Int.emod_nonneg _ (by decide)
def timeL (x : Int) (j : Nat) : List Int := (List.range j).map fun i => x / 2 ^ (56 - 8 * i) % 256
theorem timeL_length (x : Int) (j : Nat) : (timeL x j).length = j := by simp [timeL]
theorem timeL_succ (x : Int) (j : Nat) : timeL x (j + 1) = timeL x j ++ [x / 2 ^ (56 - 8 * j) % 256] := by simp [timeL, List.range_succ]
theorem keepS {g : Nat} {r f q : ByteArray} {t : Int} {w w1 : World} (h : w.heap[g]? = some (.cells #[.string r, .string f, .string q, .int .u64 t] 24 (0, 0))) (hb : Below w.heap.size w w1) : w1.cell? ⟨g, 0, none⟩ = some (.string r) ∧ w1.cell? ⟨g, 1, none⟩ = some (.string f) ∧ w1.cell? ⟨g, 2, none⟩ = some (.string q) := by
  have h1 := blk_below h hb
  exact ⟨(blk_cell h1 0).trans rfl, (blk_cell h1 1).trans rfl, (blk_cell h1 2).trans rfl⟩
set_option maxHeartbeats 4000000 in
set_option maxRecDepth 100000 in
theorem bytes_ok (r f q : ByteArray) (t : Int) (w : World) (h : okB r f q = true) :
    Calls Tryd.prog 12 #[.agg #[.string r, .string f, .string q, .int .u64 t]] w fun e w' => ∃ v0_ : Value, e = .returned (.tuple #[v0_, .int .i64 0]) ∧ Kd.R kB 5 w' w.heap.size (fun _ => True) v0_ (keyL r f q ++ timeL (timeX t) 8) ∧ Below w.heap.size w w' := by
  obtain ⟨s1, s2, s3⟩ := okB_sizes h
  have HR0 := Aside0.mk (rightI_ok h)
  clear h
  go_enter Tryd.func12, Tryd.ntmps12
  go_wp2_with fail
  refine (right_any r f q t _).mono ?_
  rintro e w1 ⟨rfl, hb⟩
  rw [HR0.out]
  have HX : Aside0 (w1.heap[w.heap.size]? = some (.cells #[.string r, .string f, .string q, .int .u64 t] 24 (0, 0))) := ⟨blk_below (heap_alloc_new w _) hb⟩
  have HB : Aside0 (Below w.heap.size w w1) := ⟨((Below.refl _ _).alloc (Nat.le_refl _) _).trans (hb.mono (by simp))⟩
  have HZ : Aside0 (w.heap.size + 1 ≤ w1.heap.size) := ⟨by have := hb.size; simpa using this⟩
  obtain ⟨g, hg⟩ : ∃ g, w.heap.size = g := ⟨_, rfl⟩
  have HG := Aside0.mk hg
  rw [hg] at HX ⊢
  clear hb hg
  have c0 : w1.cell? ⟨g, 0, none⟩ = some (.string r) := (blk_cell HX.out 0).trans rfl
  have c1 : w1.cell? ⟨g, 1, none⟩ = some (.string f) := (blk_cell HX.out 1).trans rfl
  have c2 : w1.cell? ⟨g, 2, none⟩ = some (.string q) := (blk_cell HX.out 2).trans rfl
  have c3 : w1.cell? ⟨g, 3, none⟩ = some (.int .u64 t) := (blk_cell HX.out 3).trans rfl
  have hlt := blk_lt HX.out
  go_upto_region 4 with fail
  go_cut [5] (fun v5 wx => ∃ gb : Nat, ∃ v : Value, v5 = .pointer (some ⟨gb, 0, none⟩) ∧ Aside0 (wx.heap[gb]? = some (.cells #[v] 27 (0, 0)) ∧ wx.heap[g]? = some (.cells #[.string r, .string f, .string q, .int .u64 t] 24 (0, 0)) ∧ Below w.heap.size w wx ∧ Kd.R kB 5 wx w.heap.size (fun _ => True) v (keyL r f q) ∧ w.heap.size ≤ gb))
  case first =>
   go_region_held3 (fun w' => w'.cell? ⟨g, 0, none⟩ = some (.string r) ∧ w'.cell? ⟨g, 1, none⟩ = some (.string f) ∧ w'.cell? ⟨g, 2, none⟩ = some (.string q))
    (first | go_keep | exact keepS HY4.out (below_alloc (Below.refl _ _) _) | exact keepS (blk_far HY4.out (by (try simp); omega) _) (Below.refl _ _) | exact HK4.out | exact HK3.out | exact HK2.out | exact HK1.out)
    (first
      | (go_at_call_of 27 (Value.string r); refine (escaped_any r _ s1).mono ?_; rintro e W1 ⟨v1, rfl, hr, hb⟩; have hb2 := bl_to (X := w1) (by repeat (first | exact Below.refl _ _ | refine below_drew ?_ | refine pw_below_drewN ?_ _ | refine below_alloc ?_ _)) hb; have HK1 := Aside0.mk (keepS HX.out hb2); have HY1 := Aside0.mk (blk_below HX.out hb2); have HB1 := Aside0.mk (HB.out.trans (hb2.mono HB.out.size)); have HR1 := Aside0.mk (bl_lower (X := w1) (B := w.heap.size) (by repeat (first | exact Below.refl _ _ | refine below_drew ?_ | refine pw_below_drewN ?_ _ | refine below_alloc ?_ _)) hr HB.out.size); have HL1 := Aside0.mk hb; obtain ⟨hc1, hf1⟩ := bcell hb; have hz1 := hb.size; (try simp at hz1); (try have q01 := (show w1.heap.size < W1.heap.size by omega)); (try have p01 := (show w1.heap.size + 1 < W1.heap.size by omega)); clear hb hb2 hr; obtain ⟨A1, n1, e1⟩ := Kd.R_slice HR1.out; subst e1)
      | (go_at_call_of 27 (Value.string f); (refine (escaped_any f _ s2).mono ?_; rintro e W2 ⟨v2, rfl, hr, hb⟩; have hb2 := bl_to (X := W1) (by repeat (first | exact Below.refl _ _ | refine below_drew ?_ | refine pw_below_drewN ?_ _ | refine below_alloc ?_ _)) hb; have HK2 := Aside0.mk (keepS HY1.out hb2); have HY2 := Aside0.mk (blk_below HY1.out hb2); have HB2 := Aside0.mk (HB1.out.trans (hb2.mono HB1.out.size)); have HR2 := Aside0.mk (bl_lower (X := W1) (B := w.heap.size) (by repeat (first | exact Below.refl _ _ | refine below_drew ?_ | refine pw_below_drewN ?_ _ | refine below_alloc ?_ _)) hr HB1.out.size); have HR1' := Aside0.mk (Kd.R_below HR1.out hb2); clear HR1; have HR1 := HR1'; clear HR1'; have HL2 := Aside0.mk hb; obtain ⟨hc2, hf2⟩ := bcell hb; have hz2 := hb.size; (try simp at hz2); (try have q02 := (show w1.heap.size < W2.heap.size by omega)); (try have p02 := (show w1.heap.size + 1 < W2.heap.size by omega)); (try have q12 := (show W1.heap.size < W2.heap.size by omega)); (try have p12 := (show W1.heap.size + 1 < W2.heap.size by omega)); clear hb hb2 hr; obtain ⟨A2, n2, e2⟩ := Kd.R_slice HR2.out; subst e2))
      | (go_at_call_of 27 (Value.string q); refine (escaped_any q _ s3).mono ?_; rintro e W3 ⟨v3, rfl, hr, hb⟩; have hb2 := bl_to (X := W2) (by repeat (first | exact Below.refl _ _ | refine below_drew ?_ | refine pw_below_drewN ?_ _ | refine below_alloc ?_ _)) hb; have HK3 := Aside0.mk (keepS HY2.out hb2); have HY3 := Aside0.mk (blk_below HY2.out hb2); have HB3 := Aside0.mk (HB2.out.trans (hb2.mono HB2.out.size)); have HR3 := Aside0.mk (bl_lower (X := W2) (B := w.heap.size) (by repeat (first | exact Below.refl _ _ | refine below_drew ?_ | refine pw_below_drewN ?_ _ | refine below_alloc ?_ _)) hr HB2.out.size); have HR1' := Aside0.mk (Kd.R_below HR1.out hb2); clear HR1; have HR1 := HR1'; clear HR1'; have HR2' := Aside0.mk (Kd.R_below HR2.out hb2); clear HR2; have HR2 := HR2'; clear HR2'; have HL3 := Aside0.mk hb; obtain ⟨hc3, hf3⟩ := bcell hb; have hz3 := hb.size; (try simp at hz3); (try have q03 := (show w1.heap.size < W3.heap.size by omega)); (try have p03 := (show w1.heap.size + 1 < W3.heap.size by omega)); (try have q13 := (show W1.heap.size < W3.heap.size by omega)); (try have p13 := (show W1.heap.size + 1 < W3.heap.size by omega)); (try have q23 := (show W2.heap.size < W3.heap.size by omega)); (try have p23 := (show W2.heap.size + 1 < W3.heap.size by omega)); clear hb hb2 hr; obtain ⟨A3, n3, e3⟩ := Kd.R_slice HR3.out; subst e3)
      | (go_at_call 26; refine (concat_any _ _ [nums (escL r), nums (escL f), nums (escL q)] _ (C_rows3 (A1 := A1) (A2 := A2) (A3 := A3) (c1 := n1) (c2 := n2) (c3 := n3) (by first | exact heap_alloc_new _ _ | exact blk_alloc (heap_alloc_new _ _) _ | (have h9 := heap_alloc_new (W3.alloc (.cells #[.slice none 0 0] 27)) (.cells #[.slice A1 (nums (escL r)).length n1, .slice A2 (nums (escL f)).length n2, .slice A3 (nums (escL q)).length n3] 27); rwa [World.size_alloc] at h9)) (R_cap HR1.out).1 (R_cap HR2.out).1 (R_cap HR3.out).1 (Kd.C_below (R_cap HR1.out).2 (by repeat (first | exact Below.refl _ _ | refine below_drew ?_ | refine pw_below_drewN ?_ _ | refine below_alloc ?_ _))) (Kd.C_below (R_cap HR2.out).2 (by repeat (first | exact Below.refl _ _ | refine below_drew ?_ | refine pw_below_drewN ?_ _ | refine below_alloc ?_ _))) (Kd.C_below (R_cap HR3.out).2 (by repeat (first | exact Below.refl _ _ | refine below_drew ?_ | refine pw_below_drewN ?_ _ | refine below_alloc ?_ _)))) (by simp) ?_).mono ?_; (have := escL_length r s1; have := escL_length f s2; have := escL_length q s3; simp; omega); rintro e W4 ⟨v4, rfl, hr, hb⟩; have hb2 := bl_to (X := W3) (by repeat (first | exact Below.refl _ _ | refine below_drew ?_ | refine pw_below_drewN ?_ _ | refine below_alloc ?_ _)) hb; have HY4 := Aside0.mk (blk_below HY3.out hb2); have HK4 := Aside0.mk (keepS HY3.out hb2); have HB4 := Aside0.mk (HB3.out.trans (hb2.mono HB3.out.size)); have HR4 : Aside0 (Kd.R kB 5 W4 w.heap.size (fun _ => True) v4 (keyL r f q)) := ⟨by unfold keyL; have h9 := bl_lower (X := W3) (B := w.heap.size) (by repeat (first | exact Below.refl _ _ | refine below_drew ?_ | refine pw_below_drewN ?_ _ | refine below_alloc ?_ _)) hr HB3.out.size; simpa [List.append_assoc] using h9⟩; have HL4 := Aside0.mk hb; obtain ⟨hc4, hf4⟩ := bcell hb; have hz4 := hb.size; (try simp at hz4); (try have q04 := (show w1.heap.size < W4.heap.size by omega)); (try have p04 := (show w1.heap.size + 1 < W4.heap.size by omega)); (try have q14 := (show W1.heap.size < W4.heap.size by omega)); (try have p14 := (show W1.heap.size + 1 < W4.heap.size by omega)); (try have q24 := (show W2.heap.size < W4.heap.size by omega)); (try have p24 := (show W2.heap.size + 1 < W4.heap.size by omega)); (try have q34 := (show W3.heap.size < W4.heap.size by omega)); (try have p34 := (show W3.heap.size + 1 < W4.heap.size by omega)); clear hr hb hb2; obtain ⟨A4, n4, e4⟩ := Kd.R_slice HR4.out; subst e4))
   all_goals (
    go_wp2_with fail
    go_meet
    refine ⟨_, _, rfl, ⟨(by first | exact heap_alloc_new _ _ | exact one_setCell (blk_below (blk_alloc (heap_alloc_new _ _) _) HL4.out) | exact one_setCell (blk_below (blk_alloc (blk_below (heap_alloc_new _ _) HL3.out) _) HL4.out) | exact one_setCell (blk_below (blk_alloc (blk_below (blk_below (heap_alloc_new _ _) HL2.out) HL3.out) _) HL4.out) | exact one_setCell (blk_below (blk_alloc (blk_below (blk_below (blk_below (heap_alloc_new _ _) HL1.out) HL2.out) HL3.out) _) HL4.out) | exact one_setCell (blk_below (blk_alloc (blk_below (blk_below (blk_below (heap_alloc_new w1 (.cells #[.slice none 0 0] 27)) HL1.out) HL2.out) HL3.out) _) HL4.out) | exact one_setCell (blk_below (blk_alloc (blk_below (blk_below (blk_below (heap_alloc_new w1.drew (.cells #[.slice none 0 0] 27)) HL1.out) HL2.out) HL3.out) _) HL4.out) | exact one_setCell (blk_below (blk_new2 _ _ _) HL4.out)), ?_, ?_, ?_, ?_⟩⟩
    · first | exact blk_alloc HY4.out _ | exact blk_far HY4.out (by (try simp); omega) _
    · first | exact HB4.out.alloc HB4.out.size _ | exact HB4.out.setCell (by (try simp); (have := HB.out.size; omega)) _
    · first | exact Kd.R_alloc HR4.out _ | exact Kd.R_set HR4.out (by first | exact (blk_below (blk_alloc (heap_alloc_new _ _) _) HL4.out) | exact (blk_below (blk_alloc (blk_below (heap_alloc_new _ _) HL3.out) _) HL4.out) | exact (blk_below (blk_alloc (blk_below (blk_below (heap_alloc_new _ _) HL2.out) HL3.out) _) HL4.out) | exact (blk_below (blk_alloc (blk_below (blk_below (blk_below (heap_alloc_new _ _) HL1.out) HL2.out) HL3.out) _) HL4.out) | exact (blk_below (blk_alloc (blk_below (blk_below (blk_below (heap_alloc_new w1 (.cells #[.slice none 0 0] 27)) HL1.out) HL2.out) HL3.out) _) HL4.out) | exact (blk_below (blk_alloc (blk_below (blk_below (blk_below (heap_alloc_new w1.drew (.cells #[.slice none 0 0] 27)) HL1.out) HL2.out) HL3.out) _) HL4.out) | exact (blk_below (blk_new2 _ _ _) HL4.out)) (by decide) 0 _
    · have := HB.out.size; have := HB4.out.size; (try simp); omega)
  case rest =>
    obtain ⟨gb, v, rfl, HC⟩ := hcut
    have d3 : wc.cell? ⟨g, 3, none⟩ = some (.int .u64 t) := (blk_cell HC.out.2.1 3).trans rfl
    clear c0 c1 c2 c3
    go_wp2_with fail
    obtain ⟨x, hx⟩ : ∃ x, IntKind.u64.wrap (18446744073709551615 - t) = x := ⟨_, rfl⟩
    rw [hx]
    have hx0 : 0 ≤ x := by rw [← hx]; exact u64_nonneg _
    have HXX : Aside0 (timeX t = x) := ⟨hx⟩
    clear hx
    have HP : Aside0 (PutAt w (wc.alloc (Obj.cells #[.int .u64 x] 22)) gb wc.heap.size v (keyL r f q) x) := ⟨⟨blk_alloc HC.out.1 _, heap_alloc_new wc _, Kd.R_alloc HC.out.2.2.2.1 _, HC.out.2.2.1.alloc HC.out.2.2.1.size _, HC.out.2.2.2.2, HC.out.2.2.1.size, by
      unfold keyL
      have := escL_length r s1
      have := escL_length f s2
      have := escL_length q s3
      simp only [List.length_append]
      omega⟩⟩
    have HN : Aside0 ((keyL r f q).length ≤ 10000) := ⟨by
      unfold keyL
      have := escL_length r s1
      have := escL_length f s2
      have := escL_length q s3
      simp only [List.length_append]
      omega⟩
    generalize wc.alloc (Obj.cells #[.int .u64 x] 22) = w5 at HP ⊢
    generalize wc.heap.size = gt at HP ⊢
    clear d3
    go_loopw [8] (fun v8 w' => ∃ (j : Nat) (a : Int) (v : Value), j ≤ 8 ∧ a = 56 - 8 * (j : Int) ∧ v8 = .int .i64 a ∧ Aside0 (PutAt w w' gb gt v (keyL r f q ++ timeL x j) x)) (fun v8 _ => (intOf v8 + 8).toNat)
    case atStart => exact ⟨0, 56, v, by omega, by omega, rfl, by unfold timeL; simpa using HP⟩
    case round =>
      obtain ⟨j, a, v6, hj, ha, rfl, HQ⟩ := hrel
      have HA := Aside0.mk ha
      by_cases hlt : j < 8
      · have h1 : 0 ≤ a := by omega
        have h2 : a ≤ 56 := by omega
        clear ha
        go_wp2_with fail
        refine (put_any a x gb gt v6 _ w _ h1 h2 hx0 HQ.out (by have := HN.out; rw [List.length_append, timeL_length]; omega)).mono ?_
        rintro e w6 ⟨v7, rfl, hp⟩
        have HP7 := Aside0.mk hp
        clear hp
        go_wp2_with fail
        go_roundw
        case rel => exact ⟨j + 1, a - 8, v7, by omega, by have := HA.out; omega, by go_num, ⟨by rw [timeL_succ, ← List.append_assoc, show 56 - 8 * j = a.toNat by have := HA.out; omega]; exact HP7.out⟩⟩
        case measure => simp [intOf]; omega
      · obtain rfl : j = 8 := by omega
        have h1 : a < 0 := by omega
        have e0 := cell_of_one HQ.out.hb
        obtain ⟨A9, n9, e9⟩ := Kd.R_slice HQ.out.hr
        subst e9
        clear ha
        go_wp2_with fail
        go_ret2
        exact ⟨_, rfl, by rw [HXX.out]; have h9 := HQ.out.hr; rw [List.length_append] at h9; exact h9, HQ.out.below⟩

set_option maxHeartbeats 1000000 in
theorem bytes_bad (r f q : ByteArray) (t : Int) (w : World) (h : okB r f q = false) :
    Calls Tryd.prog 12 #[.agg #[.string r, .string f, .string q, .int .u64 t]] w fun e w' => ∃ v0_ : Value, e = .returned (.tuple #[v0_, .int .i64 5]) ∧ Kd.R kB 5 w' w.heap.size (fun _ => True) v0_ [] ∧ Below w.heap.size w w' := by
  have HR0 := Aside0.mk (rightI_bad h)
  clear h
  go_enter Tryd.func12, Tryd.ntmps12
  go_wp2_with fail
  refine (right_any r f q t _).mono ?_
  rintro e w1 ⟨rfl, hb⟩
  rw [HR0.out]
  have HB : Aside0 (Below w.heap.size w w1) := ⟨((Below.refl _ _).alloc (Nat.le_refl _) _).trans (hb.mono (by simp))⟩
  clear hb
  go_wp2_with fail
  go_ret2
  exact ⟨_, rfl, Kd.R_nil _ _ _ _ _, HB.out⟩
def cell_Bytes.f (a b c : ByteArray) (t : Int) : Option (List Int × Int) := some (if okB a b c then (keyL a b c ++ timeL (timeX t) 8, 0) else ([], 5))
theorem cell_Bytes.calls (a0_0 : ByteArray) (a0_1 : ByteArray) (a0_2 : ByteArray) (a0_3 : Int) (r1 : List Int) (r2 : Int) (w : World) (h : cell_Bytes.f a0_0 a0_1 a0_2 a0_3 = some (r1, r2)) :
    Calls Tryd.prog 12 #[.agg #[.string a0_0, .string a0_1, .string a0_2, .int .u64 a0_3]] w fun e w' => ∃ v0_ : Value, e = .returned (.tuple #[v0_, .int .i64 r2]) ∧ Kd.R (Kd.int .u8) 5 w' w.heap.size (fun _ => True) v0_ r1 ∧ Below w.heap.size w w' := by
  have h1 := Option.some.inj h
  rcases Bool.eq_false_or_eq_true (okB a0_0 a0_1 a0_2) with hk | hk
  · rw [if_pos hk] at h1
    injection h1 with e1 e2
    subst e1 e2
    exact bytes_ok _ _ _ _ _ hk
  · rw [if_neg (by rw [hk]; simp)] at h1
    injection h1 with e1 e2
    subst e1 e2
    exact bytes_bad _ _ _ _ _ hk
end Go.Proofs.YtfdnpnaacikgdaaDoor
