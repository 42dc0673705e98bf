/- Words and walks for Split and Tablet: texts of these sessions, and of the kit's print, cut down to what is used (P4 L3). -/
import Derived.Test.YtpckachmleonlaaGreatDoorCv32
import Derived.Test.YtpckachmleonlaaGreatDoorCv34
section
set_option linter.unusedVariables false
set_option linter.unusedSimpArgs false
namespace Go.Proofs.YtpckachmleonlaaGreatDoor
open Go.RowKit Go.Proofs.YtpckachmleonlaaGreatDoorW.PrintWords
theorem kC_M {w : World} {base : Nat} {ok : Nat → Prop} {x : CellM} {cs : List Value} (h : kC.M w base ok x cs) : ∃ y : Ch, cs = chV y ∧ y.k = x.f0 ∧ y.g = x.f2 ∧ FF (fun W => BAt W y.h x.f1) (fun k => base ≤ k) w := by
  obtain ⟨⟨r, f, q, t⟩, v, g⟩ := x
  obtain ⟨c0, c1, rfl, h0, c2, c3, rfl, ⟨u, rfl, h2⟩, h4⟩ := h
  obtain ⟨d0, d1, rfl, e0, d2, d3, rfl, e1, d4, d5, rfl, e2, e3⟩ := h0
  simp only at e0 e1 e2 e3 h4 h2
  obtain ⟨A, c, rfl⟩ := Kd.zAk h2
  rw [show d0 = [.string r] from e0, show d2 = [.string f] from e1, show d4 = [.string q] from e2, show d5 = [.int .u64 t] from e3, show c3 = [.bool g] from h4]
  exact ⟨⟨⟨r, f, q, t⟩, ⟨A, v.length, c⟩, g⟩, rfl, rfl, rfl, BAt_FF h2⟩
theorem R_heads {w : World} {base : Nat} {ok : Nat → Prop} {v : Value} {xs : List CellM} (h : Kd.R kC 49 w base ok v xs) : ∃ zs : List (Ch × CellM), zs.map (·.2) = xs ∧ Kd.R kH 49 w base ok v (zs.map (·.1)) ∧ ∀ z ∈ zs, z.1.k = z.2.f0 ∧ z.1.g = z.2.f2 ∧ FF (fun W => BAt W z.1.h z.2.f1) (fun k => base ≤ k) w := by
  obtain ⟨h0, inner, ho, hl, hr⟩ := h
  have key : ∀ i : Fin xs.length, ∃ y : Ch, (inner.drop (i.1 * kC.sz)).take kC.sz = chV y ∧ y.k = (xs[i.1]'i.2).f0 ∧ y.g = (xs[i.1]'i.2).f2 ∧ FF (fun W => BAt W y.h (xs[i.1]'i.2).f1) (fun k => base ≤ k) w := fun i => kC_M (hr i.1 _ (List.getElem?_eq_getElem i.2))
  have hch := fun i => Classical.choose_spec (key i)
  have e2 : (List.ofFn fun i : Fin xs.length => (Classical.choose (key i), xs[i.1]'i.2)).map (·.2) = xs := by
    rw [List.map_ofFn]
    exact List.ofFn_getElem
  have e1 : (List.ofFn fun i : Fin xs.length => (Classical.choose (key i), xs[i.1]'i.2)).length = xs.length := by simp
  refine ⟨List.ofFn fun i : Fin xs.length => (Classical.choose (key i), xs[i.1]'i.2), e2, ⟨h0, inner, ?_, ?_, fun j p hj => ?_⟩, fun z hz => ?_⟩
  · rw [List.length_map, e1]
    exact ho
  · rw [List.length_map, e1]
    exact hl
  · rw [List.getElem?_map, Option.map_eq_some_iff] at hj
    obtain ⟨z, hz, rfl⟩ := hj
    rw [List.getElem?_ofFn] at hz
    split at hz
    · rename_i hj
      injection hz with hz
      rw [← hz]
      exact (hch ⟨j, hj⟩).1
    · cases hz
  · rw [List.mem_ofFn] at hz
    obtain ⟨i, rfl⟩ := hz
    exact (hch i).2
theorem R_CAt {w : World} {base : Nat} {ok : Nat → Prop} {A : Option Addr} {n c : Nat} {xs : List CellM} (h : Kd.R kC 49 w base ok (.slice A n c) xs) : CAt (fun k => base ≤ k) w A n c xs := by
  obtain ⟨h1, h2, _⟩ := Kd.zEe h
  obtain ⟨zs, e, hr, hz⟩ := R_heads h
  exact ⟨h1, h2, zs, e, (R_FF hr).imp fun W hW => hW.1, hz⟩
def NewPost (k : KeyM) (cs : List CellM) (w : World) (e : Ending) (w' : World) : Prop :=
  Below w.heap.size w w' ∧ match newC k cs with
    | none => e = .returned (.tuple #[.agg #[.string ⟨#[]⟩, .string ⟨#[]⟩, .string ⟨#[]⟩, .int .u64 0, .slice none 0 0, .bool false], .bool false])
    | some x => ∃ V c, e = .returned (.tuple #[cellV x V c, .bool true]) ∧ FF (fun W => BAt W ⟨V, x.f1.length, c⟩ x.f1) (fun j => w.heap.size ≤ j) w'
set_option maxHeartbeats 4000000 in
set_option maxRecDepth 100000 in
theorem newest_any (ok : Nat → Prop) (w : World) (p : Nat) (a b : ByteArray) (cs : List CellM) (h : TabAt ok w p a b cs) (hcs : OkL cs) (hl : cs.length ≤ 100) (k : KeyM) (hr : k.f0.size ≤ 32) :
    Calls Tryz.prog 64 #[.pointer (some ⟨p, 0, none⟩), .agg #[.string k.f0, .string k.f1, .string k.f2, .int .u64 k.f3]] w fun e w' => NewPost k cs w e w' := by
  have HCOL : zAa (∀ X, Below w.heap.size w X → Calls Tryz.prog 105 #[.pointer (some ⟨p, 0, none⟩), .agg #[.string k.f0, .string k.f1, .string k.f2, .int .u64 k.f3]] X fun e w' => ∃ v, e = .returned v ∧ Kd.R kC 49 w' X.heap.size (fun _ => True) v (colC k cs) ∧ Below X.heap.size X w') := ⟨fun X hX => column_any ok X p a b cs (h.keep hX) hcs hl k hr⟩
  have HB : zAa (Below w.heap.size w ((w.alloc (.cells #[.string k.f0, .string k.f1, .string k.f2, .int .u64 k.f3] 46)).alloc (.cells #[.string ⟨#[]⟩, .string ⟨#[]⟩, .string ⟨#[]⟩, .int .u64 0, .slice none 0 0, .bool false] 49))) := ⟨zAb (zAb (Below.refl _ _) _) _⟩
  have HG : zAa (((w.alloc (.cells #[.string k.f0, .string k.f1, .string k.f2, .int .u64 k.f3] 46)).alloc (.cells #[.string ⟨#[]⟩, .string ⟨#[]⟩, .string ⟨#[]⟩, .int .u64 0, .slice none 0 0, .bool false] 49)).heap[w.heap.size + 1]? = some (.cells #[.string ⟨#[]⟩, .string ⟨#[]⟩, .string ⟨#[]⟩, .int .u64 0, .slice none 0 0, .bool false] 49 (0, 0))) := ⟨Cp.zFi _ _ _⟩
  have HLEN : zAa ((colC k cs).length ≤ 100) := ⟨Nat.le_trans (colC_len _ _) hl⟩
  have HPO : zAa (∀ e w', (Below w.heap.size w w' ∧ match (colC k cs).head?.bind fun x => if x.f2 then none else some x with
    | none => e = .returned (.tuple #[.agg #[.string ⟨#[]⟩, .string ⟨#[]⟩, .string ⟨#[]⟩, .int .u64 0, .slice none 0 0, .bool false], .bool false])
    | some x => ∃ V c, e = .returned (.tuple #[cellV x V c, .bool true]) ∧ FF (fun W => BAt W ⟨V, x.f1.length, c⟩ x.f1) (fun j => w.heap.size ≤ j) w') → NewPost k cs w e w') := ⟨fun e w' h => h⟩
  clear h hcs hl hr
  generalize colC k cs = l at HCOL HLEN HPO
  go_enter Tryz.func64, Tryz.ntmps64
  go_wp2_with fail
  refine (HCOL.out _ HB.out).mono ?_
  rintro e w2 ⟨v, rfl, hr, hb⟩
  have HB2 : zAa (Below w.heap.size w w2) := ⟨HB.out.trans (hb.mono HB.out.size)⟩
  have HG2 := zAa.mk (zAf HG.out hb)
  have hr2 := Kd.zCj (base' := w.heap.size + 2) hr (by simp)
  obtain ⟨A, c, rfl⟩ := Kd.zAk hr
  have HC := zAa.mk (R_CAt hr2)
  have hle := (Kd.zEe hr).2.1
  have f0 := zAd HG2.out 0
  have f1 := zAd HG2.out 1
  have f2 := zAd HG2.out 2
  have f3 := zAd HG2.out 3
  have f4 := zAd HG2.out 4
  have f5 := zAd HG2.out 5
  have d0 := (zAc HG2.out 0).trans (rfl : _ = some (Value.string ⟨#[]⟩))
  have d1 := (zAc HG2.out 1).trans (rfl : _ = some (Value.string ⟨#[]⟩))
  have d2 := (zAc HG2.out 2).trans (rfl : _ = some (Value.string ⟨#[]⟩))
  have d3 := (zAc HG2.out 3).trans (rfl : _ = some (Value.int .u64 0))
  have d4 := (zAc HG2.out 4).trans (rfl : _ = some (Value.slice none 0 0))
  have d5 := (zAc HG2.out 5).trans (rfl : _ = some (Value.bool false))
  have hlg := zAj HG2.out
  obtain ⟨g, hg⟩ : ∃ g, w.heap.size + 1 = g := ⟨_, rfl⟩
  have HGE : zAa (w.heap.size ≤ g ∧ ¬ w.heap.size + 2 ≤ g) := ⟨by omega, by omega⟩
  rw [hg] at f0 f1 f2 f3 f4 f5 d0 d1 d2 d3 d4 d5 hlg HG2 ⊢
  clear hr hb hr2 HCOL HB HG hg
  cases l with
  | nil =>
    simp only [List.length_nil] at hle ⊢
    go_wp2_with fail
    have y := cells6 HG2.out (.string ⟨#[]⟩) (.string ⟨#[]⟩) (.string ⟨#[]⟩) (.int .u64 0) (.slice none 0 0) (.bool false)
    obtain ⟨y0, y1, y2, y3, y4, y5⟩ := y
    refine bodyPost_ret (v := .tuple #[.agg #[.string ⟨#[]⟩, .string ⟨#[]⟩, .string ⟨#[]⟩, .int .u64 0, .slice none 0 0, .bool false], .bool false]) (by simp [results, Tryz.results64, go_sem, y0, y1, y2, y3, y4, y5]) rfl ?_
    exact HPO.out _ _ ⟨set6_below HB2.out HGE.out.1 _ _ _ _ _ _, rfl⟩
  | cons x l =>
    obtain ⟨zs, e1, h1, h2⟩ := HC.out.ex
    cases zs with
    | nil => cases e1
    | cons z zs =>
      simp only [List.map_cons, List.cons.injEq] at e1
      obtain ⟨e1, _⟩ := e1
      have hz := h2 z (by simp)
      rw [e1] at hz
      obtain ⟨ad, y, rfl, hy, p0, p1, p2, p3, p4, p5⟩ := at_kH h1.now 0 (by simp)
      simp only [List.map_cons, List.getElem?_cons_zero, Option.some.injEq] at hy
      subst hy
      obtain ⟨hz1, hz2, hz3⟩ := hz
      have hn := hz3.now.n
      rw [hz1] at p0 p1 p2 p3
      rw [hz2] at p5
      rw [hn] at p4
      rw [show z.1.h = ⟨z.1.h.A, x.f1.length, z.1.h.c⟩ by rw [← hn]] at hz3
      generalize z.1.h.A = V at p4 hz3
      generalize z.1.h.c = cv at p4 hz3
      have HV := zAa.mk hz3
      rw [Nat.zero_mul, Addr.add_zero'] at p0 p1 p2 p3 p4 p5
      obtain ⟨n, hn2⟩ : ∃ n, l.length = n := ⟨_, rfl⟩
      have HL := HLEN.out
      rw [List.length_cons, hn2] at hle HL ⊢
      obtain ⟨lx, hlx⟩ : ∃ lx, x.f1.length = lx := ⟨_, rfl⟩
      have HLX := zAa.mk hlx
      rw [hlx] at p4 HV
      have z0 : (((n + 1 : Nat) : Int) == 0) = false := by simp; omega
      have z1 : ((n : Int) + 1 == 0) = false := by simp; omega
      obtain ⟨⟨r0, r1, r2, r3⟩, xv, xg⟩ := x
      simp only at p0 p1 p2 p3 p4 p5 hlx HLX HV
      clear e1 h1 h2 hz1 hz2 hz3 hn hn2 hlx HC HLEN
      cases xg
      case true =>
        go_wp2_with fail
        have y := cells6 HG2.out (.string ⟨#[]⟩) (.string ⟨#[]⟩) (.string ⟨#[]⟩) (.int .u64 0) (.slice none 0 0) (.bool false)
        obtain ⟨y0, y1, y2, y3, y4, y5⟩ := y
        refine bodyPost_ret (v := .tuple #[.agg #[.string ⟨#[]⟩, .string ⟨#[]⟩, .string ⟨#[]⟩, .int .u64 0, .slice none 0 0, .bool false], .bool false]) (by simp [results, Tryz.results64, go_sem, y0, y1, y2, y3, y4, y5]) rfl ?_
        exact HPO.out _ _ ⟨set6_below HB2.out HGE.out.1 _ _ _ _ _ _, rfl⟩
      case false =>
        go_wp2_with fail
        have y := cells6 HG2.out (.string r0) (.string r1) (.string r2) (.int .u64 r3) (.slice V lx cv) (.bool false)
        obtain ⟨y0, y1, y2, y3, y4, y5⟩ := y
        refine bodyPost_ret (v := .tuple #[.agg #[.string r0, .string r1, .string r2, .int .u64 r3, .slice V lx cv, .bool false], .bool true]) (by simp [results, Tryz.results64, go_sem, y0, y1, y2, y3, y4, y5]) rfl ?_
        refine HPO.out _ _ ⟨set6_below HB2.out HGE.out.1 _ _ _ _ _ _, V, cv, ?_, ?_⟩
        · unfold cellV
          rw [HLX.out]
        · rw [HLX.out]
          exact (HV.out.step fun k hk _ => set6_far (by have := HGE.out.2; omega) _ _ _ _ _ _).mono fun k hk => by omega
end Go.Proofs.YtpckachmleonlaaGreatDoor
end
section
set_option linter.unusedVariables false
set_option linter.unusedSimpArgs false
namespace Go.Proofs.YtpckachmleonlaaGreatDoor
open Go.RowKit Go.Proofs.YtpckachmleonlaaGreatDoorW.PrintWords Go.Proofs.YtpckachmleonlaaGreatDoorW.PrintMore Go.Proofs.YtpckachmleonlaaGreatDoorW.PrintLast
theorem eqA46 (d : Nat) (w : World) (x0 y0 : ByteArray) (x1 y1 : ByteArray) (x2 y2 : ByteArray) (x3 y3 : Int) :
  (Op.equalIn (d + 2) 46 (.agg #[.string x0, .string x1, .string x2, .int .u64 x3]) (.agg #[.string y0, .string y1, .string y2, .int .u64 y3])).run Tryz.prog w = .ok (x0.toList == y0.toList && (x1.toList == y1.toList && (x2.toList == y2.toList && (x3 == y3)))) w := by
 refine eqA_of Tryz.underlying46 (by kernel_rfl) ?_
 refine eqf_cons (by rfl) (by go_simp; rfl) (by go_simp; rfl) (by go_simp) ?_
 refine eqf_cons (by rfl) (by go_simp; rfl) (by go_simp; rfl) (by go_simp) ?_
 refine eqf_cons (by rfl) (by go_simp; rfl) (by go_simp; rfl) (by go_simp) ?_
 exact eqf_last (by rfl) (by go_simp; rfl) (by go_simp; rfl) (by go_simp)
def keyB (r f q : ByteArray) (t : Int) (r' f' q' : ByteArray) (t' : Int) : Bool := r.toList == r'.toList && (f.toList == f'.toList && (q.toList == q'.toList && (t == t')))
theorem eqK46 (d : Nat) (w : World) (x0 y0 : ByteArray) (x1 y1 : ByteArray) (x2 y2 : ByteArray) (x3 y3 : Int) :
  (Op.equalIn (d + 2) 46 (.agg #[.string x0, .string x1, .string x2, .int .u64 x3]) (.agg #[.string y0, .string y1, .string y2, .int .u64 y3])).run Tryz.prog w = .ok (keyB x0 x1 x2 x3 y0 y1 y2 y3) w := eqA46 d w x0 y0 x1 y1 x2 y2 x3 y3
theorem keyB_eq (a b : KeyM) : keyB a.f0 a.f1 a.f2 a.f3 b.f0 b.f1 b.f2 b.f3 = decide (a = b) := by
 obtain ⟨r, f, q, t⟩ := a
 obtain ⟨r', f', q', t'⟩ := b
 unfold keyB
 rw [Bool.eq_iff_iff]
 simp [ba_eq]
attribute [local go_sem high] eqK46
theorem drop_same {xs ys : List CellM} {k : Nat} (h : ∀ j : Nat, j < k → xs[j]? = ys[j]?) (hx : xs.length = k) (hy : ys.length = k) : xs = ys := by
 apply List.ext_getElem?
 intro i
 rcases Nat.lt_or_ge i k with h1 | h1
 ·exact h i h1
 ·rw [List.getElem?_eq_none (by omega), List.getElem?_eq_none (by omega)]
theorem two_a (w : World) (a b : Obj) : ((w.alloc a).alloc b).drew.heap[w.heap.size]? = some a := zAi (heap_alloc_new _ _) _
theorem two_b (w : World) (a b : Obj) : ((w.alloc a).alloc b).drew.heap[w.heap.size + 1]? = some b := Cp.zFi _ _ _
theorem cell_eq {x y : CellM} (h1 : x.f0 = y.f0) (h2 : x.f2 = y.f2) (h3 : x.f1 = y.f1) : x = y := by
 obtain ⟨a, b, c⟩ := x
 obtain ⟨a', b', c'⟩ := y
 simp only at h1 h2 h3
 subst h1 h2 h3
 rfl
set_option maxHeartbeats 4000000 in
set_option maxRecDepth 100000 in
theorem results_any (e1 e2 : Int) (m1 m2 : Bool) (xs ys : List CellM) (A B : Option Addr) (c d : Nat) (w : World) (hx : kC.C w A xs.length xs) (hy : kC.C w B ys.length ys) (hl : xs.length ≤ 1000) (hl2 : ys.length ≤ 1000) (hv : ∀ x ∈ xs, x.f1.length ≤ 10000) :
  Calls Tryz.prog 29 #[.agg #[.int .i64 e1, .slice A xs.length c, .bool m1], .agg #[.int .i64 e2, .slice B ys.length d, .bool m2]] w fun e w' => ∃ b, e = .returned (.bool b) ∧ (b = true ↔ (e1 = e2 ∧ m1 = m2 ∧ xs = ys)) ∧ Below w.heap.size w w' := by
 by_cases he : e1 = e2
 case neg =>
  have h1 : (e1 == e2) = false := by simpa using he
  have h1' : (e1 != e2) = true := by simpa using he
  have HE := zAa.mk he
  obtain ⟨n, hn⟩ : ∃ n, xs.length = n := ⟨_, rfl⟩
  obtain ⟨m, hm⟩ : ∃ m, ys.length = m := ⟨_, rfl⟩
  rw [hn, hm]
  clear hx hy hl hl2 hv hn hm he
  go_enter Tryz.func29, Tryz.ntmps29
  go_wp2_with fail
  go_ret
  exact ⟨false, rfl, by simp [HE.out], zAb (zAb (Below.refl _ _) _) _⟩
 subst he
 by_cases hm : m1 = m2
 case neg =>
  have h2 : (m1 == m2) = false := by simpa using hm
  have HE := zAa.mk hm
  obtain ⟨n, hn⟩ : ∃ n, xs.length = n := ⟨_, rfl⟩
  obtain ⟨m, hm⟩ : ∃ m, ys.length = m := ⟨_, rfl⟩
  rw [hn, hm]
  clear hx hy hl hl2 hv hn hm
  cases m1 <;> cases m2 <;> first | (exact absurd rfl HE.out) | skip
  all_goals (
   clear h2
   go_enter Tryz.func29, Tryz.ntmps29
   go_wp2_with fail
   go_ret
   exact ⟨false, rfl, by simp, zAb (zAb (Below.refl _ _) _) _⟩)
 subst hm
 by_cases hn : xs.length = ys.length
 case neg =>
  have HE : zAa (xs ≠ ys) := ⟨fun e => hn (by rw [e])⟩
  have h3 : ((xs.length : Int) == (ys.length : Int)) = false := by rw [beq_eq_false_iff_ne]; omega
  have h4 : ((xs.length : Int) != (ys.length : Int)) = true := by rw [bne_iff_ne]; omega
  obtain ⟨n, hn'⟩ : ∃ n, xs.length = n := ⟨_, rfl⟩
  obtain ⟨m, hm⟩ : ∃ m, ys.length = m := ⟨_, rfl⟩
  rw [hn', hm] at h3 h4 ⊢
  clear hx hy hl hl2 hv hn hn' hm
  cases m1
  all_goals (
   go_enter Tryz.func29, Tryz.ntmps29
   go_wp2_with fail
   go_ret
   exact ⟨false, rfl, by simp [HE.out], zAb (zAb (Below.refl _ _) _) _⟩)
 have HX := zAa.mk hx
 have HY : zAa (kC.C w B xs.length ys) := ⟨by rw [hn]; exact hy⟩
 have HV := zAa.mk (And.intro hv hl)
 rw [← hn]
 obtain ⟨n, hn'⟩ : ∃ n, xs.length = n := ⟨_, rfl⟩
 have HN : zAa (xs.length = n ∧ ys.length = n) := ⟨hn', hn ▸ hn'⟩
 rw [hn'] at HX HY hl ⊢
 clear hx hy hv hn hn' hl2
 have HB1 : zAa (Below w.heap.size w ((w.alloc (.cells #[.int .i64 e1, .slice A n c, .bool m1] 59)).alloc (.cells #[.int .i64 e1, .slice B n d, .bool m1] 59))) := ⟨zAb (zAb (Below.refl _ _) _) _⟩
 have HA1 : zAa (((w.alloc (.cells #[.int .i64 e1, .slice A n c, .bool m1] 59)).alloc (.cells #[.int .i64 e1, .slice B n d, .bool m1] 59)).heap[w.heap.size]? = some (.cells #[.int .i64 e1, .slice A n c, .bool m1] 59 (0, 0))) := ⟨zAi (heap_alloc_new _ _) _⟩
 have HG1 : zAa (((w.alloc (.cells #[.int .i64 e1, .slice A n c, .bool m1] 59)).alloc (.cells #[.int .i64 e1, .slice B n d, .bool m1] 59)).heap[w.heap.size + 1]? = some (.cells #[.int .i64 e1, .slice B n d, .bool m1] 59 (0, 0))) := ⟨Cp.zFi _ _ _⟩
 have hmm : (m1 != m1) = false := by cases m1 <;> rfl
 go_enter Tryz.func29, Tryz.ntmps29
 go_upto_region 4 with fail
 revert HB1 HA1 HG1
 generalize (w.alloc _).alloc _ = w1
 intro HB1 HA1 HG1
 go_loopg [5, 6, 7] n (fun gg v5 v6 v7 wr => ∃ k : Nat, k ≤ n ∧ n - k ≤ gg ∧ v5 = .int .i64 k ∧ zAa (Below w.heap.size w wr) ∧ zAa (wr.heap[w.heap.size]? = some (.cells #[.int .i64 e1, .slice A n c, .bool m1] 59 (0, 0))) ∧ zAa (wr.heap[w.heap.size + 1]? = some (.cells #[.int .i64 e1, .slice B n d, .bool m1] 59 (0, 0))) ∧ zAa (∀ j : Nat, j < k → xs[j]? = ys[j]?))
 case atStart => exact ⟨0, Nat.zero_le _, by omega, rfl, HB1, HA1, HG1, ⟨fun j hj => absurd hj (Nat.not_lt_zero _)⟩⟩
 case round =>
  obtain ⟨k, hk, hg, rfl, HB, HA, HG, HJ⟩ := hrel
  by_cases hlt : k < n
  ·have hltz : (k : Int) < (n : Int) := by omega
   obtain ⟨ad, A4, c4, rfl, p0, p1, p2, p3, p4, p5, p6, p7⟩ := PSplitCuts.at_T49 (Kd.zBb HX.out HB.out) (k : Int) (by omega) hltz
   obtain ⟨bd, B4, d4, rfl, q0, q1, q2, q3, q4, q5, q6, q7⟩ := PSplitCuts.at_T49 (Kd.zBb HY.out HB.out) (k : Int) (by omega) hltz
   simp only [Int.toNat_natCast] at p0 p1 p2 p3 p4 p5 q0 q1 q2 q3 q4 q5
   have hxk : xs[k]? = some (PSplitCuts.zBd xs k) := by
    unfold PSplitCuts.zBd
    rw [Int.toNat_natCast, List.getD_eq_getElem?_getD, List.getElem?_eq_getElem (by have := HN.out.1; omega)]
    rfl
   have hyk : ys[k]? = some (PSplitCuts.zBd ys k) := by
    unfold PSplitCuts.zBd
    rw [Int.toNat_natCast, List.getD_eq_getElem?_getD, List.getElem?_eq_getElem (by have := HN.out.2; omega)]
    rfl
   generalize PSplitCuts.zBd xs (k : Int) = x at p0 p1 p2 p3 p4 p5 p6 p7 hxk
   generalize PSplitCuts.zBd ys (k : Int) = y at q0 q1 q2 q3 q4 q5 q6 q7 hyk
   have HXY := zAa.mk (And.intro hxk hyk)
   have HP := zAa.mk (And.intro p6 (And.intro p7 (And.intro q6 q7)))
   have HLX : zAa (x.f1.length ≤ 10000) := ⟨HV.out.1 x (List.mem_of_getElem? hxk)⟩
   have a1 := (zAc HA.out 1).trans (rfl : _ = some (Value.slice (some ad) n c))
   have b1 := (zAc HG.out 1).trans (rfl : _ = some (Value.slice (some bd) n d))
   have hla := zAj HA.out
   have hlb := zAj HG.out
   obtain ⟨lx, hlx⟩ : ∃ lx, x.f1.length = lx := ⟨_, rfl⟩
   obtain ⟨ly, hly⟩ : ∃ ly, y.f1.length = ly := ⟨_, rfl⟩
   have HL := zAa.mk (And.intro hlx hly)
   rw [hlx] at p4
   rw [hly] at q4
   clear p6 p7 q6 q7 hxk hyk hlx hly
   go_upto_region 6 with fail
   have HKEEP : zAa (∀ W, Below wr.heap.size wr W → W.cell? ⟨w.heap.size, 1, none⟩ = some (.slice (some ad) n c) ∧ W.cell? ⟨w.heap.size + 1, 1, none⟩ = some (.slice (some bd) n d) ∧
    W.cell? (ad.add (k * 6)) = some (.string x.f0.f0) ∧ W.cell? ⟨(ad.add (k * 6)).block, (ad.add (k * 6)).off + 1, none⟩ = some (.string x.f0.f1) ∧ W.cell? ⟨(ad.add (k * 6)).block, (ad.add (k * 6)).off + 2, none⟩ = some (.string x.f0.f2) ∧ W.cell? ⟨(ad.add (k * 6)).block, (ad.add (k * 6)).off + 3, none⟩ = some (.int .u64 x.f0.f3) ∧ W.cell? ⟨(ad.add (k * 6)).block, (ad.add (k * 6)).off + 4, none⟩ = some (.slice A4 lx c4) ∧ W.cell? ⟨(ad.add (k * 6)).block, (ad.add (k * 6)).off + 5, none⟩ = some (.bool x.f2) ∧
    W.cell? (bd.add (k * 6)) = some (.string y.f0.f0) ∧ W.cell? ⟨(bd.add (k * 6)).block, (bd.add (k * 6)).off + 1, none⟩ = some (.string y.f0.f1) ∧ W.cell? ⟨(bd.add (k * 6)).block, (bd.add (k * 6)).off + 2, none⟩ = some (.string y.f0.f2) ∧ W.cell? ⟨(bd.add (k * 6)).block, (bd.add (k * 6)).off + 3, none⟩ = some (.int .u64 y.f0.f3) ∧ W.cell? ⟨(bd.add (k * 6)).block, (bd.add (k * 6)).off + 4, none⟩ = some (.slice B4 ly d4) ∧ W.cell? ⟨(bd.add (k * 6)).block, (bd.add (k * 6)).off + 5, none⟩ = some (.bool y.f2)) := ⟨fun W hW =>
    have e : ∀ {p : Addr} {v : Value}, wr.cell? p = some v → W.cell? p = some v := fun h => (hW.cell (World.block_lt_of_cell? wr _ h)).trans h
    ⟨e a1, e b1, e p0, e p1, e p2, e p3, e p4, e p5, e q0, e q1, e q2, e q3, e q4, e q5⟩⟩
   go_region_held3 (fun W => W.cell? ⟨w.heap.size, 1, none⟩ = some (.slice (some ad) n c) ∧ W.cell? ⟨w.heap.size + 1, 1, none⟩ = some (.slice (some bd) n d) ∧
    W.cell? (ad.add (k * 6)) = some (.string x.f0.f0) ∧ W.cell? ⟨(ad.add (k * 6)).block, (ad.add (k * 6)).off + 1, none⟩ = some (.string x.f0.f1) ∧ W.cell? ⟨(ad.add (k * 6)).block, (ad.add (k * 6)).off + 2, none⟩ = some (.string x.f0.f2) ∧ W.cell? ⟨(ad.add (k * 6)).block, (ad.add (k * 6)).off + 3, none⟩ = some (.int .u64 x.f0.f3) ∧ W.cell? ⟨(ad.add (k * 6)).block, (ad.add (k * 6)).off + 4, none⟩ = some (.slice A4 lx c4) ∧ W.cell? ⟨(ad.add (k * 6)).block, (ad.add (k * 6)).off + 5, none⟩ = some (.bool x.f2) ∧
    W.cell? (bd.add (k * 6)) = some (.string y.f0.f0) ∧ W.cell? ⟨(bd.add (k * 6)).block, (bd.add (k * 6)).off + 1, none⟩ = some (.string y.f0.f1) ∧ W.cell? ⟨(bd.add (k * 6)).block, (bd.add (k * 6)).off + 2, none⟩ = some (.string y.f0.f2) ∧ W.cell? ⟨(bd.add (k * 6)).block, (bd.add (k * 6)).off + 3, none⟩ = some (.int .u64 y.f0.f3) ∧ W.cell? ⟨(bd.add (k * 6)).block, (bd.add (k * 6)).off + 4, none⟩ = some (.slice B4 ly d4) ∧ W.cell? ⟨(bd.add (k * 6)).block, (bd.add (k * 6)).off + 5, none⟩ = some (.bool y.f2))
    (exact HKEEP.out _ (by repeat (first | exact Below.refl _ _ | refine zAg ?_ | refine zAe ?_ _ | refine zAb ?_ _ | refine Below.setCell ?_ (by simp) _)))
    (fail)
   have HXB := zAa.mk (two_a wr (.cells #[.string x.f0.f0, .string x.f0.f1, .string x.f0.f2, .int .u64 x.f0.f3, .slice A4 lx c4, .bool x.f2] 49) (.cells #[.string y.f0.f0, .string y.f0.f1, .string y.f0.f2, .int .u64 y.f0.f3, .slice B4 ly d4, .bool y.f2] 49))
   have HYB := zAa.mk (two_b wr (.cells #[.string x.f0.f0, .string x.f0.f1, .string x.f0.f2, .int .u64 x.f0.f3, .slice A4 lx c4, .bool x.f2] 49) (.cells #[.string y.f0.f0, .string y.f0.f1, .string y.f0.f2, .int .u64 y.f0.f3, .slice B4 ly d4, .bool y.f2] 49))
   have HBW : zAa (Below wr.heap.size wr ((wr.alloc (.cells #[.string x.f0.f0, .string x.f0.f1, .string x.f0.f2, .int .u64 x.f0.f3, .slice A4 lx c4, .bool x.f2] 49)).alloc (.cells #[.string y.f0.f0, .string y.f0.f1, .string y.f0.f2, .int .u64 y.f0.f3, .slice B4 ly d4, .bool y.f2] 49)).drew) := ⟨zAg (zAb (zAb (Below.refl _ _) _) _)⟩
   generalize ((wr.alloc (.cells #[.string x.f0.f0, .string x.f0.f1, .string x.f0.f2, .int .u64 x.f0.f3, .slice A4 lx c4, .bool x.f2] 49)).alloc (.cells #[.string y.f0.f0, .string y.f0.f1, .string y.f0.f2, .int .u64 y.f0.f3, .slice B4 ly d4, .bool y.f2] 49)).drew = W at HXB HYB HBW ⊢
   generalize wr.heap.size + 1 = gy at HYB ⊢
   generalize wr.heap.size = gx at HXB ⊢
   rotate_left
   have HXB := zAa.mk (two_b wr (.cells #[.string y.f0.f0, .string y.f0.f1, .string y.f0.f2, .int .u64 y.f0.f3, .slice B4 ly d4, .bool y.f2] 49) (.cells #[.string x.f0.f0, .string x.f0.f1, .string x.f0.f2, .int .u64 x.f0.f3, .slice A4 lx c4, .bool x.f2] 49))
   have HYB := zAa.mk (two_a wr (.cells #[.string y.f0.f0, .string y.f0.f1, .string y.f0.f2, .int .u64 y.f0.f3, .slice B4 ly d4, .bool y.f2] 49) (.cells #[.string x.f0.f0, .string x.f0.f1, .string x.f0.f2, .int .u64 x.f0.f3, .slice A4 lx c4, .bool x.f2] 49))
   have HBW : zAa (Below wr.heap.size wr ((wr.alloc (.cells #[.string y.f0.f0, .string y.f0.f1, .string y.f0.f2, .int .u64 y.f0.f3, .slice B4 ly d4, .bool y.f2] 49)).alloc (.cells #[.string x.f0.f0, .string x.f0.f1, .string x.f0.f2, .int .u64 x.f0.f3, .slice A4 lx c4, .bool x.f2] 49)).drew) := ⟨zAg (zAb (zAb (Below.refl _ _) _) _)⟩
   generalize ((wr.alloc (.cells #[.string y.f0.f0, .string y.f0.f1, .string y.f0.f2, .int .u64 y.f0.f3, .slice B4 ly d4, .bool y.f2] 49)).alloc (.cells #[.string x.f0.f0, .string x.f0.f1, .string x.f0.f2, .int .u64 x.f0.f3, .slice A4 lx c4, .bool x.f2] 49)).drew = W at HXB HYB HBW ⊢
   generalize wr.heap.size + 1 = gx at HXB ⊢
   generalize wr.heap.size = gy at HYB ⊢
   all_goals (
    have x0 := (zAc HXB.out 0).trans (rfl : _ = some (Value.string x.f0.f0))
    have x1 := (zAc HXB.out 1).trans (rfl : _ = some (Value.string x.f0.f1))
    have x2 := (zAc HXB.out 2).trans (rfl : _ = some (Value.string x.f0.f2))
    have x3 := (zAc HXB.out 3).trans (rfl : _ = some (Value.int .u64 x.f0.f3))
    have x4 := (zAc HXB.out 4).trans (rfl : _ = some (Value.slice A4 lx c4))
    have x5 := (zAc HXB.out 5).trans (rfl : _ = some (Value.bool x.f2))
    have y0 := (zAc HYB.out 0).trans (rfl : _ = some (Value.string y.f0.f0))
    have y1 := (zAc HYB.out 1).trans (rfl : _ = some (Value.string y.f0.f1))
    have y2 := (zAc HYB.out 2).trans (rfl : _ = some (Value.string y.f0.f2))
    have y3 := (zAc HYB.out 3).trans (rfl : _ = some (Value.int .u64 y.f0.f3))
    have y4 := (zAc HYB.out 4).trans (rfl : _ = some (Value.slice B4 ly d4))
    have y5 := (zAc HYB.out 5).trans (rfl : _ = some (Value.bool y.f2))
    have hlx := zAj HXB.out
    have hly := zAj HYB.out
    have HB3 : zAa (Below w.heap.size w W) := ⟨HB.out.trans (HBW.out.mono HB.out.size)⟩
    have HA3 := zAa.mk (zAf HA.out HBW.out)
    have HG3 := zAa.mk (zAf HG.out HBW.out)
    have HKB := zAa.mk (keyB_eq x.f0 y.f0)
    have HNE : zAa (x ≠ y → xs ≠ ys) := ⟨fun h e => by
     have h1 := HXY.out.1
     rw [e, HXY.out.2] at h1
     exact h (Option.some.inj h1).symm⟩
    have hcall := rsame_any A4 c4 x.f1 B4 d4 y.f1 W (Kd.zBb HP.out.2.1 HBW.out) HP.out.1 (Kd.zBb HP.out.2.2.2 HBW.out) HP.out.2.2.1 HLX.out
    rw [HL.out.1, HL.out.2] at hcall
    have HCALL := zAa.mk hcall
    clear hcall HKEEP p0 p1 p2 p3 p4 p5 q0 q1 q2 q3 q4 q5 a1 b1 hla hlb
    obtain ⟨b, hb⟩ : ∃ b, keyB x.f0.f0 x.f0.f1 x.f0.f2 x.f0.f3 y.f0.f0 y.f0.f1 y.f0.f2 y.f0.f3 = b := ⟨_, rfl⟩
    have HKE : zAa (b = decide (x.f0 = y.f0)) := ⟨hb.symm.trans HKB.out⟩
    cases b
    case false =>
     have HD : zAa (xs ≠ ys) := ⟨HNE.out (fun e => by have h9 := HKE.out; rw [e] at h9; simp at h9)⟩
     clear HKE HKB
     go_wp2_with fail
     go_ret
     exact ⟨false, rfl, by simp [HD.out], HB3.out⟩
    case true =>
     have HKF : zAa (x.f0 = y.f0) := ⟨of_decide_eq_true HKE.out.symm⟩
     clear HKE HKB
     obtain ⟨gone, hgone⟩ : ∃ g, x.f2 = g := ⟨_, rfl⟩
     obtain ⟨gone', hgone'⟩ : ∃ g, y.f2 = g := ⟨_, rfl⟩
     have HGG := zAa.mk (And.intro hgone hgone')
     rw [hgone] at x5
     rw [hgone'] at y5
     rw [hgone, hgone']
     clear hgone hgone'
     obtain ⟨b2, hb2⟩ : ∃ b2, decide (x.f1 = y.f1) = b2 := ⟨_, rfl⟩
     rw [hb2] at HCALL
     have HD2 := zAa.mk hb2
     clear hb2
     have hgg : zAa (gone ≠ gone' → xs ≠ ys) := ⟨fun h => HNE.out (fun e => h (by rw [← HGG.out.1, ← HGG.out.2, e]))⟩
     have hgs : zAa (gone = gone' → x.f2 = y.f2) := ⟨fun h => by rw [HGG.out.1, HGG.out.2, h]⟩
     clear HGG
     cases gone <;> cases gone'
     case false.true =>
      go_wp2_with fail
      go_ret
      exact ⟨false, rfl, by simp [hgg.out (by decide)], HB3.out⟩
     case true.false =>
      go_wp2_with fail
      go_ret
      exact ⟨false, rfl, by simp [hgg.out (by decide)], HB3.out⟩
     all_goals (
      cases b2
      case false =>
       have HD : zAa (xs ≠ ys) := ⟨HNE.out (fun e => by have h9 := HD2.out; rw [e] at h9; simp at h9)⟩
       go_wp2_with fail
       refine HCALL.out.mono ?_
       rintro e W5 ⟨rfl, hb5⟩
       have HB5 : zAa (Below w.heap.size w W5) := ⟨HB3.out.trans (hb5.mono HB3.out.size)⟩
       clear hb5 HCALL x0 x1 x2 x3 x4 x5 y0 y1 y2 y3 y4 y5
       go_wp2_with fail
       go_ret
       exact ⟨false, rfl, by simp [HD.out], HB5.out⟩
      case true =>
       have HE : zAa (x = y) := ⟨cell_eq HKF.out (hgs.out rfl) (of_decide_eq_true HD2.out)⟩
       go_wp2_with fail
       refine HCALL.out.mono ?_
       rintro e W5 ⟨rfl, hb5⟩
       have HB5 : zAa (Below w.heap.size w W5) := ⟨HB3.out.trans (hb5.mono HB3.out.size)⟩
       have HA5 := zAa.mk (zAf HA3.out hb5)
       have HG5 := zAa.mk (zAf HG3.out hb5)
       clear hb5 HCALL x0 x1 x2 x3 x4 x5 y0 y1 y2 y3 y4 y5
       go_wp2_with fail
       go_roundg (n - (k + 1))
       case measure => omega
       case rel =>
        refine ⟨k + 1, by omega, by omega, by go_num, HB5, HA5, HG5, ⟨fun j hj => ?_⟩⟩
        rcases Nat.lt_or_ge j k with h9 | h9
        ·exact HJ.out j h9
        ·obtain rfl : j = k := by omega
         rw [HXY.out.1, HXY.out.2, HE.out]))
  ·have hltz : ¬ (k : Int) < (n : Int) := by omega
   have : k = n := by omega
   subst this
   have a1 := (zAc HA.out 1).trans (rfl : _ = some (Value.slice A k c))
   have hla := zAj HA.out
   go_wp2_with fail
   go_ret
   exact .inr ⟨rfl, drop_same HJ.out HN.out.1 HN.out.2, HB.out⟩
end Go.Proofs.YtpckachmleonlaaGreatDoor
end
