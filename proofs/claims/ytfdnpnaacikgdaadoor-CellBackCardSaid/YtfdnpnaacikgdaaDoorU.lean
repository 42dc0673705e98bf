/- Cell: the key of bytes. -/
import Derived.Test.YtfdnpnaacikgdaaDoorT
import Derived.Laws.BitsLemmas
/- Read. -/
set_option linter.unusedVariables false
set_option linter.unusedSimpArgs false
namespace Go.Proofs.YtfdnpnaacikgdaaDoor
open Go.RowKit Go.Proofs.YtfdnpnaacikgdaaDoorW.PrintWords

def strU (l : List UInt8) : ByteArray := strOfNums (nums l)
def beV (l : List UInt8) : Nat := l.foldl (fun a c => a * 256 + c.toNat) 0
theorem beV_snoc (l : List UInt8) (c : UInt8) : beV (l ++ [c]) = beV l * 256 + c.toNat := by simp [beV]
/-- The key that bytes are, or none. -/
def readF (bs : List UInt8) : Option (ByteArray × ByteArray × ByteArray × Int) :=
  match unesc bs with
  | none => none
  | some (r, b1) =>
    match unesc b1 with
    | none => none
    | some (f, b2) =>
      match unesc b2 with
      | none => none
      | some (q, b3) => if b3.length = 8 ∧ okB (strU r) (strU f) (strU q) = true then some (strU r, strU f, strU q, timeX (beV b3)) else none
def ReadPost (w : World) (o : Option (ByteArray × ByteArray × ByteArray × Int)) (e : Ending) (w' : World) : Prop :=
  match o with
  | some (r, f, q, t) => e = .returned (.tuple #[.agg #[.string r, .string f, .string q, .int .u64 t], .int .i64 0]) ∧ Below w.heap.size w w'
  | none => e = .returned (.tuple #[.agg #[.string ⟨#[]⟩, .string ⟨#[]⟩, .string ⟨#[]⟩, .int .u64 0], .int .i64 5]) ∧ Below w.heap.size w w'
theorem ReadPost.bad {w w' : World} {o : Option (ByteArray × ByteArray × ByteArray × Int)} (h : o = none) (hb : Below w.heap.size w w') : ReadPost w o (.returned (.tuple #[.agg #[.string ⟨#[]⟩, .string ⟨#[]⟩, .string ⟨#[]⟩, .int .u64 0], .int .i64 5])) w' := by
  subst h
  exact ⟨rfl, hb⟩
theorem ReadPost.good {w w' : World} {o : Option (ByteArray × ByteArray × ByteArray × Int)} {r f q : ByteArray} {t : Int} (h : o = some (r, f, q, t)) (hb : Below w.heap.size w w') : ReadPost w o (.returned (.tuple #[.agg #[.string r, .string f, .string q, .int .u64 t], .int .i64 0])) w' := by
  subst h
  exact ⟨rfl, hb⟩
theorem unesc_len : ∀ (n : Nat) (bs s r : List UInt8), bs.length ≤ n → unesc bs = some (s, r) → s.length + r.length ≤ bs.length
  | _, [], s, r, _, h => by cases h
  | 0, x :: bs, s, r, hl, h => by simp at hl
  | n + 1, x :: bs, s, r, hl, h => by
    unfold unesc at h
    split at h
    · split at h
      · cases h
      · rename_i y r'
        split at h
        · injection h with h
          injection h with h1 h2
          subst h1 h2
          simp
          omega
        · split at h
          · cases hu : unesc r' with
            | none => rw [hu] at h; cases h
            | some p =>
              rw [hu] at h
              injection h with h
              injection h with h1 h2
              subst h1 h2
              have := unesc_len n r' p.1 p.2 (by simp at hl; omega) hu
              simp
              omega
          · cases h
    · cases hu : unesc bs with
      | none => rw [hu] at h; cases h
      | some p =>
        rw [hu] at h
        injection h with h
        injection h with h1 h2
        subst h1 h2
        have := unesc_len n bs p.1 p.2 (by simp at hl; omega) hu
        simp
        omega
/-- The two variables in memory: the result, and the three texts. -/
structure RAt (w W : World) (g0 ga : Nat) (a b c : ByteArray) : Prop where
  h0 : W.heap[g0]? = some (.cells #[.string ⟨#[]⟩, .string ⟨#[]⟩, .string ⟨#[]⟩, .int .u64 0] 24 (0, 0))
  h1 : W.heap[ga]? = some (.cells #[.string a, .string b, .string c] 51 (0, 0))
  below : Below w.heap.size w W
  l0 : w.heap.size ≤ g0
  l1 : w.heap.size ≤ ga
theorem RAt.keep {w W W' : World} {g0 ga : Nat} {a b c : ByteArray} (h : RAt w W g0 ga a b c) (hb : Below W.heap.size W W') : RAt w W' g0 ga a b c :=
  ⟨blk_below h.h0 hb, blk_below h.h1 hb, h.below.trans (hb.mono h.below.size), h.l0, h.l1⟩
theorem RAt.set0 {w W : World} {g0 ga : Nat} {a b c : ByteArray} (h : RAt w W g0 ga a b c) (hne : ga ≠ g0) (x : ByteArray) : RAt w (W.setCell ⟨ga, 0, none⟩ (.string x)) g0 ga x b c :=
  ⟨blk_far h.h0 (fun e => hne e.symm) _, blk_set h.h1 0 _, h.below.setCell h.l1 _, h.l0, h.l1⟩
theorem RAt.set1 {w W : World} {g0 ga : Nat} {a b c : ByteArray} (h : RAt w W g0 ga a b c) (hne : ga ≠ g0) (x : ByteArray) : RAt w (W.setCell ⟨ga, 1, none⟩ (.string x)) g0 ga a x c :=
  ⟨blk_far h.h0 (fun e => hne e.symm) _, blk_set h.h1 1 _, h.below.setCell h.l1 _, h.l0, h.l1⟩
theorem RAt.set2 {w W : World} {g0 ga : Nat} {a b c : ByteArray} (h : RAt w W g0 ga a b c) (hne : ga ≠ g0) (x : ByteArray) : RAt w (W.setCell ⟨ga, 2, none⟩ (.string x)) g0 ga a b x :=
  ⟨blk_far h.h0 (fun e => hne e.symm) _, blk_set h.h1 2 _, h.below.setCell h.l1 _, h.l0, h.l1⟩
theorem beV_go : ∀ (l : List UInt8) (a : Nat), l.foldl (fun a c => a * 256 + c.toNat) a < (a + 1) * 256 ^ l.length
  | [], a => by simp
  | c :: l, a => by
    have ih := beV_go l (a * 256 + c.toNat)
    have hc : c.toNat < 256 := c.toNat_lt
    rw [List.foldl_cons, List.length_cons, Nat.pow_succ]
    refine Nat.lt_of_lt_of_le ih ?_
    rw [Nat.mul_comm (256 ^ l.length) 256, ← Nat.mul_assoc]
    exact Nat.mul_le_mul_right _ (by omega)
theorem beV_lt (l : List UInt8) : beV l < 256 ^ l.length := by
  have := beV_go l 0
  unfold beV
  omega
theorem beV_lt7 {l : List UInt8} (h : l.length ≤ 7) : beV l < 72057594037927936 := by
  refine Nat.lt_of_lt_of_le (beV_lt l) ?_
  exact Nat.le_trans (Nat.pow_le_pow_right (by decide) h) (by decide)
theorem beV_take (l : List UInt8) (i : Nat) (h : i < l.length) : beV (l.take (i + 1)) = beV (l.take i) * 256 + (l.getD i 0).toNat := by
  rw [List.take_succ_eq_append_getElem h, beV_snoc, List.getD_eq_getElem?_getD, List.getElem?_eq_getElem h]
  rfl
theorem wrap_u64' {x : Int} (h0 : 0 ≤ x) (h1 : x < 18446744073709551616) : IntKind.u64.wrap x = x := by
  have : IntKind.u64.wrap x = x % 18446744073709551616 := by simp [IntKind.wrap, IntKind.bits, IntKind.signed]
  rw [this]
  omega
theorem or_byte (V : Nat) (c : UInt8) (h : V < 72057594037927936) : Go.bits .or .u64 ((V : Int) * 256) (c.toNat : Int) = (V : Int) * 256 + (c.toNat : Int) := by
  have hc : c.toNat < 256 := c.toNat_lt
  exact bits_join .u64 64 (by decide) (fun n h0 h1 => wrap_u64' h0 (by omega)) 8 _ _ (by omega) (by omega) (by omega) (by omega) (by omega) (by omega)
def put4 (W : World) (g : Nat) (a b c : ByteArray) (t : Int) : World := (((W.setCell ⟨g, 0, none⟩ (.string a)).setCell ⟨g, 1, none⟩ (.string b)).setCell ⟨g, 2, none⟩ (.string c)).setCell ⟨g, 3, none⟩ (.int .u64 t)
theorem RAt.put {w W : World} {g0 ga : Nat} {a b c : ByteArray} (h : RAt w W g0 ga a b c) (r f q : ByteArray) (t : Int) :
    ((put4 W g0 r f q t).cell? ⟨g0, 0, none⟩ = some (.string r) ∧ (put4 W g0 r f q t).cell? ⟨g0, 1, none⟩ = some (.string f) ∧ (put4 W g0 r f q t).cell? ⟨g0, 2, none⟩ = some (.string q) ∧ (put4 W g0 r f q t).cell? ⟨g0, 3, none⟩ = some (.int .u64 t)) ∧ Below w.heap.size w (put4 W g0 r f q t) := by
  have b1 := blk_set (blk_set (blk_set (blk_set h.h0 0 (.string r)) 1 (.string f)) 2 (.string q)) 3 (.int .u64 t)
  have hb := (((h.below.setCell (p := ⟨g0, 0, none⟩) h.l0 (.string r)).setCell (p := ⟨g0, 1, none⟩) h.l0 (.string f)).setCell (p := ⟨g0, 2, none⟩) h.l0 (.string q)).setCell (p := ⟨g0, 3, none⟩) h.l0 (.int .u64 t)
  exact ⟨⟨(blk_cell b1 0).trans rfl, (blk_cell b1 1).trans rfl, (blk_cell b1 2).trans rfl, (blk_cell b1 3).trans rfl⟩, hb⟩
set_option maxHeartbeats 4000000 in
set_option maxRecDepth 100000 in
theorem read_any (A : Option Addr) (n c : Nat) (bs : List UInt8) (w : World) (hn : bs.length = n) (hc : n ≤ c) (hl : n ≤ 100000) (hr : Kd.C kB w A n (nums bs)) :
    Calls Tryd.prog 22 #[.slice A n c] w (ReadPost w (readF bs)) := by
  have HR := Aside0.mk hr
  have HN := Aside0.mk hn
  clear hr hn
  go_enter Tryd.func22, Tryd.ntmps22
  go_wp2_with fail
  have HA0 : Aside0 (RAt w ((w.alloc (Obj.cells #[Value.string ⟨#[]⟩, Value.string ⟨#[]⟩, Value.string ⟨#[]⟩, Value.int IntKind.u64 0] 24)).alloc (Obj.cells #[Value.string ⟨#[]⟩, Value.string ⟨#[]⟩, Value.string ⟨#[]⟩] 51)) w.heap.size (w.heap.size + 1) ⟨#[]⟩ ⟨#[]⟩ ⟨#[]⟩) :=
    ⟨⟨blk_alloc (heap_alloc_new _ _) _, blk_new2 _ _ _, below_alloc (below_alloc (Below.refl _ _) _) _, by omega, by omega⟩⟩
  generalize ((w.alloc (Obj.cells #[Value.string ⟨#[]⟩, Value.string ⟨#[]⟩, Value.string ⟨#[]⟩, Value.int IntKind.u64 0] 24)).alloc (Obj.cells #[Value.string ⟨#[]⟩, Value.string ⟨#[]⟩, Value.string ⟨#[]⟩] 51)) = W0 at HA0 ⊢
  have HG : Aside0 (w.heap.size + 1 ≠ w.heap.size) := ⟨by omega⟩
  generalize w.heap.size + 1 = ga at HA0 HG ⊢
  obtain ⟨g0, hg0⟩ : ∃ g0, w.heap.size = g0 := ⟨_, rfl⟩
  rw [hg0] at HA0 HG ⊢
  clear hg0
  refine wp_loop_rounds 4 ?_
  rw [rounds_succ]
  go_wp2_with fail
  refine (plain_any A n c bs w W0 HA0.out.below HN.out hc hl HR.out).mono ?_
  intro e V1 hp
  cases hu : unesc bs with
  | none =>
    unfold PlainPost at hp
    rw [hu] at hp
    obtain ⟨rfl, hb⟩ := hp
    have HB1 := Aside0.mk (HA0.out.keep hb)
    have HX : Aside0 (readF bs = none) := ⟨by unfold readF; rw [hu]⟩
    clear hb hu
    have d0 : V1.cell? ⟨g0, 0, none⟩ = some (.string ⟨#[]⟩) := (blk_cell HB1.out.h0 0).trans rfl
    have d1 : V1.cell? ⟨g0, 1, none⟩ = some (.string ⟨#[]⟩) := (blk_cell HB1.out.h0 1).trans rfl
    have d2 : V1.cell? ⟨g0, 2, none⟩ = some (.string ⟨#[]⟩) := (blk_cell HB1.out.h0 2).trans rfl
    have d3 : V1.cell? ⟨g0, 3, none⟩ = some (.int .u64 0) := (blk_cell HB1.out.h0 3).trans rfl
    have f0 := blk_frozen HB1.out.h0 0
    have f1 := blk_frozen HB1.out.h0 1
    have f2 := blk_frozen HB1.out.h0 2
    have f3 := blk_frozen HB1.out.h0 3
    have HP := Aside0.mk (HB1.out.put ⟨#[]⟩ ⟨#[]⟩ ⟨#[]⟩ 0)
    go_wp2_with fail
    obtain ⟨⟨e0, e1, e2, e3⟩, hbF⟩ := HP.out
    unfold put4 at e0 e1 e2 e3 hbF
    exact bodyPost_ret (v := .tuple #[.agg #[.string ⟨#[]⟩, .string ⟨#[]⟩, .string ⟨#[]⟩, .int .u64 0], .int .i64 5]) (by simp [results, Tryd.results22, go_sem, e0, e1, e2, e3]) rfl (ReadPost.bad HX.out hbF)
  | some p =>
    obtain ⟨s1, r1⟩ := p
    unfold PlainPost at hp
    rw [hu] at hp
    obtain ⟨v, A1, k1, rfl, hR1, hC1, hle1, hb⟩ := hp
    have HU1 := Aside0.mk hu
    have HC1 := Aside0.mk hC1
    have hln := unesc_len bs.length bs s1 r1 (Nat.le_refl _) hu
    have HB1 := Aside0.mk (HA0.out.keep hb)
    obtain ⟨Av1, cv1, ev⟩ := Kd.R_slice hR1
    subst ev
    have hs1 := Kd.C_string (c := cv1) (P := Tryd.prog) Tryd.underlying27 Tryd.underlying5 Tryd.underlying9 (R_cap hR1).2
    have a1 : V1.cell? ⟨ga, 0, none⟩ = some (.string ⟨#[]⟩) := (blk_cell HB1.out.h1 0).trans rfl
    have z1 := blk_frozen HB1.out.h1 0
    obtain ⟨n1, hn1⟩ : ∃ n1, r1.length = n1 := ⟨_, rfl⟩
    have HN1 := Aside0.mk hn1
    have hl1 : n1 ≤ 100000 := by rw [HN.out] at hln; omega
    rw [hn1] at hle1 HC1
    rw [hn1]
    clear hu hC1 hb hR1 hln hn1
    go_wp2_with fail
    have HA1 := Aside0.mk (HB1.out.set0 HG.out (strU s1))
    unfold strU at HA1
    generalize V1.setCell ⟨ga, 0, none⟩ (.string (strOfNums (nums s1))) = W1 at HA1 ⊢
    clear hs1 a1 z1
    rw [rounds_succ]
    go_wp2_with fail
    refine (plain_any A1 n1 k1 r1 w W1 HA1.out.below HN1.out hle1 hl1 HC1.out).mono ?_
    intro e V2 hp
    cases hu : unesc r1 with
    | none =>
      unfold PlainPost at hp
      rw [hu] at hp
      obtain ⟨rfl, hb⟩ := hp
      have HB2 := Aside0.mk (HA1.out.keep hb)
      have HX : Aside0 (readF bs = none) := ⟨by unfold readF; rw [HU1.out]; simp only []; rw [hu]⟩
      clear hb hu
      have d0 : V2.cell? ⟨g0, 0, none⟩ = some (.string ⟨#[]⟩) := (blk_cell HB2.out.h0 0).trans rfl
      have d1 : V2.cell? ⟨g0, 1, none⟩ = some (.string ⟨#[]⟩) := (blk_cell HB2.out.h0 1).trans rfl
      have d2 : V2.cell? ⟨g0, 2, none⟩ = some (.string ⟨#[]⟩) := (blk_cell HB2.out.h0 2).trans rfl
      have d3 : V2.cell? ⟨g0, 3, none⟩ = some (.int .u64 0) := (blk_cell HB2.out.h0 3).trans rfl
      have f0 := blk_frozen HB2.out.h0 0
      have f1 := blk_frozen HB2.out.h0 1
      have f2 := blk_frozen HB2.out.h0 2
      have f3 := blk_frozen HB2.out.h0 3
      have HP := Aside0.mk (HB2.out.put ⟨#[]⟩ ⟨#[]⟩ ⟨#[]⟩ 0)
      go_wp2_with fail
      obtain ⟨⟨e0, e1, e2, e3⟩, hbF⟩ := HP.out
      unfold put4 at e0 e1 e2 e3 hbF
      exact bodyPost_ret (v := .tuple #[.agg #[.string ⟨#[]⟩, .string ⟨#[]⟩, .string ⟨#[]⟩, .int .u64 0], .int .i64 5]) (by simp [results, Tryd.results22, go_sem, e0, e1, e2, e3]) rfl (ReadPost.bad HX.out hbF)
    | some p =>
      obtain ⟨s2, r2⟩ := p
      unfold PlainPost at hp
      rw [hu] at hp
      obtain ⟨v, A2, k2, rfl, hR1, hC1, hle2, hb⟩ := hp
      have HU2 := Aside0.mk hu
      have HC2 := Aside0.mk hC1
      have hln := unesc_len r1.length r1 s2 r2 (Nat.le_refl _) hu
      have HB2 := Aside0.mk (HA1.out.keep hb)
      obtain ⟨Av2, cv2, ev⟩ := Kd.R_slice hR1
      subst ev
      have hs2 := Kd.C_string (c := cv2) (P := Tryd.prog) Tryd.underlying27 Tryd.underlying5 Tryd.underlying9 (R_cap hR1).2
      have a2 : V2.cell? ⟨ga, 1, none⟩ = some (.string ⟨#[]⟩) := (blk_cell HB2.out.h1 1).trans rfl
      have z2 := blk_frozen HB2.out.h1 1
      obtain ⟨n2, hn2⟩ : ∃ n2, r2.length = n2 := ⟨_, rfl⟩
      have HN2 := Aside0.mk hn2
      have hl2 : n2 ≤ 100000 := by rw [HN1.out] at hln; omega
      rw [hn2] at hle2 HC2
      rw [hn2]
      clear hu hC1 hb hR1 hln hn2
      go_wp2_with fail
      have HA2 := Aside0.mk (HB2.out.set1 HG.out (strU s2))
      unfold strU at HA2
      generalize V2.setCell ⟨ga, 1, none⟩ (.string (strOfNums (nums s2))) = W2 at HA2 ⊢
      clear hs2 a2 z2
      rw [rounds_succ]
      go_wp2_with fail
      refine (plain_any A2 n2 k2 r2 w W2 HA2.out.below HN2.out hle2 hl2 HC2.out).mono ?_
      intro e V3 hp
      cases hu : unesc r2 with
      | none =>
        unfold PlainPost at hp
        rw [hu] at hp
        obtain ⟨rfl, hb⟩ := hp
        have HB3 := Aside0.mk (HA2.out.keep hb)
        have HX : Aside0 (readF bs = none) := ⟨by unfold readF; rw [HU1.out]; simp only []; rw [HU2.out]; simp only []; rw [hu]⟩
        clear hb hu
        have d0 : V3.cell? ⟨g0, 0, none⟩ = some (.string ⟨#[]⟩) := (blk_cell HB3.out.h0 0).trans rfl
        have d1 : V3.cell? ⟨g0, 1, none⟩ = some (.string ⟨#[]⟩) := (blk_cell HB3.out.h0 1).trans rfl
        have d2 : V3.cell? ⟨g0, 2, none⟩ = some (.string ⟨#[]⟩) := (blk_cell HB3.out.h0 2).trans rfl
        have d3 : V3.cell? ⟨g0, 3, none⟩ = some (.int .u64 0) := (blk_cell HB3.out.h0 3).trans rfl
        have f0 := blk_frozen HB3.out.h0 0
        have f1 := blk_frozen HB3.out.h0 1
        have f2 := blk_frozen HB3.out.h0 2
        have f3 := blk_frozen HB3.out.h0 3
        have HP := Aside0.mk (HB3.out.put ⟨#[]⟩ ⟨#[]⟩ ⟨#[]⟩ 0)
        go_wp2_with fail
        obtain ⟨⟨e0, e1, e2, e3⟩, hbF⟩ := HP.out
        unfold put4 at e0 e1 e2 e3 hbF
        exact bodyPost_ret (v := .tuple #[.agg #[.string ⟨#[]⟩, .string ⟨#[]⟩, .string ⟨#[]⟩, .int .u64 0], .int .i64 5]) (by simp [results, Tryd.results22, go_sem, e0, e1, e2, e3]) rfl (ReadPost.bad HX.out hbF)
      | some p =>
        obtain ⟨s3, r3⟩ := p
        unfold PlainPost at hp
        rw [hu] at hp
        obtain ⟨v, A3, k3, rfl, hR1, hC1, hle3, hb⟩ := hp
        have HU3 := Aside0.mk hu
        have HC3 := Aside0.mk hC1
        have hln := unesc_len r2.length r2 s3 r3 (Nat.le_refl _) hu
        have HB3 := Aside0.mk (HA2.out.keep hb)
        obtain ⟨Av3, cv3, ev⟩ := Kd.R_slice hR1
        subst ev
        have hs3 := Kd.C_string (c := cv3) (P := Tryd.prog) Tryd.underlying27 Tryd.underlying5 Tryd.underlying9 (R_cap hR1).2
        have a3 : V3.cell? ⟨ga, 2, none⟩ = some (.string ⟨#[]⟩) := (blk_cell HB3.out.h1 2).trans rfl
        have z3 := blk_frozen HB3.out.h1 2
        obtain ⟨n3, hn3⟩ : ∃ n3, r3.length = n3 := ⟨_, rfl⟩
        have HN3 := Aside0.mk hn3
        have hl3 : n3 ≤ 100000 := by rw [HN2.out] at hln; omega
        rw [hn3] at hle3 HC3
        rw [hn3]
        clear hu hC1 hb hR1 hln hn3
        go_wp2_with fail
        have HA3 := Aside0.mk (HB3.out.set2 HG.out (strU s3))
        unfold strU at HA3
        generalize V3.setCell ⟨ga, 2, none⟩ (.string (strOfNums (nums s3))) = W3 at HA3 ⊢
        clear hs3 a3 z3
        rw [rounds_succ]
        by_cases h8 : n3 = 8
        · subst h8
          go_wp2_with fail
          go_loop [9, 38] (fun vt vi => ∃ i : Nat, i ≤ 8 ∧ vi = .int .i64 i ∧ vt = .int .u64 (beV (r3.take i) : Nat)) (fun _ vi => 8 - (intOf vi).toNat)
          case atStart => exact ⟨0, by omega, rfl, rfl⟩
          case round =>
            obtain ⟨i, hi, rfl, rfl⟩ := hrel
            by_cases hlt : i < 8
            · obtain ⟨ad, rfl, c0⟩ := byteAt (Kd.C_below HC3.out HA3.out.below) i (by rw [HN3.out]; exact hlt)
              have h4 : (i : Int) < 8 := by omega
              obtain ⟨cc, hcc⟩ : ∃ cc, r3.getD i 0 = cc := ⟨_, rfl⟩
              rw [hcc] at c0
              obtain ⟨V, hV⟩ : ∃ V, beV (r3.take i) = V := ⟨_, rfl⟩
              have hVb : V < 72057594037927936 := by rw [← hV]; exact beV_lt7 (by rw [List.length_take]; omega)
              have HVS : Aside0 (beV (r3.take (i + 1)) = V * 256 + cc.toNat) := ⟨by rw [← hV, ← hcc]; exact beV_take r3 i (by rw [HN3.out]; exact hlt)⟩
              rw [hV]
              have o1 : IntKind.u64.wrap ((V : Int) * 256) = (V : Int) * 256 := wrap_u64' (by omega) (by omega)
              have o3 : IntKind.u64.wrap (cc.toNat : Int) = (cc.toNat : Int) := wrap_u64' (by omega) (by have := cc.toNat_lt; omega)
              have o2 : Go.bits .or .u64 ((V : Int) * 256) (cc.toNat : Int) = (V : Int) * 256 + (cc.toNat : Int) := or_byte V cc (by omega)
              clear hcc hV hVb
              go_wp2_with fail
              go_round
              case rel => exact ⟨i + 1, by omega, by go_num, by rw [HVS.out]; go_num⟩
              case measure => simp [intOf]; omega
            · obtain rfl : i = 8 := by omega
              have htk : r3.take 8 = r3 := List.take_of_length_le (by rw [HN3.out]; exact Nat.le_refl _)
              rw [htk]
              obtain ⟨x, hx⟩ : ∃ x, timeX (beV r3) = x := ⟨_, rfl⟩
              have HXX := Aside0.mk hx
              have hx' : IntKind.u64.wrap (18446744073709551615 - ((beV r3 : Nat) : Int)) = x := hx
              have b0 : W3.cell? ⟨ga, 0, none⟩ = some (.string (strOfNums (nums s1))) := (blk_cell HA3.out.h1 0).trans rfl
              have b1 : W3.cell? ⟨ga, 1, none⟩ = some (.string (strOfNums (nums s2))) := (blk_cell HA3.out.h1 1).trans rfl
              have b2 : W3.cell? ⟨ga, 2, none⟩ = some (.string (strOfNums (nums s3))) := (blk_cell HA3.out.h1 2).trans rfl
              clear htk hx
              go_wp2_with fail
              have HK : Aside0 ((W3.alloc (Obj.cells #[.string (strOfNums (nums s1)), .string (strOfNums (nums s2)), .string (strOfNums (nums s3)), .int .u64 x] 24)).heap[W3.heap.size]? = some (.cells #[.string (strOfNums (nums s1)), .string (strOfNums (nums s2)), .string (strOfNums (nums s3)), .int .u64 x] 24 (0, 0))) := ⟨heap_alloc_new _ _⟩
              have HA3' := Aside0.mk (HA3.out.keep (below_alloc (Below.refl _ _) (Obj.cells #[.string (strOfNums (nums s1)), .string (strOfNums (nums s2)), .string (strOfNums (nums s3)), .int .u64 x] 24)))
              generalize (W3.alloc (Obj.cells #[.string (strOfNums (nums s1)), .string (strOfNums (nums s2)), .string (strOfNums (nums s3)), .int .u64 x] 24)) = W4 at HK HA3' ⊢
              generalize W3.heap.size = gk at HK ⊢
              clear hx' b0 b1 b2
              refine (right_any _ _ _ _ _).mono ?_
              rintro e V4 ⟨rfl, hb⟩
              have HA4 := Aside0.mk (HA3'.out.keep hb)
              have HK4 := Aside0.mk (blk_below HK.out hb)
              clear hb
              rcases Bool.eq_false_or_eq_true (okB (strOfNums (nums s1)) (strOfNums (nums s2)) (strOfNums (nums s3))) with hk | hk
              · rw [rightI_ok hk]
                have HX : Aside0 (readF bs = some (strOfNums (nums s1), strOfNums (nums s2), strOfNums (nums s3), x)) := ⟨by unfold readF; rw [HU1.out]; simp only []; rw [HU2.out]; simp only []; rw [HU3.out]; simp only []; rw [if_pos ⟨HN3.out, hk⟩, HXX.out]; rfl⟩
                clear hk
                have y0 : V4.cell? ⟨gk, 0, none⟩ = some (.string (strOfNums (nums s1))) := (blk_cell HK4.out 0).trans rfl
                have y1 : V4.cell? ⟨gk, 1, none⟩ = some (.string (strOfNums (nums s2))) := (blk_cell HK4.out 1).trans rfl
                have y2 : V4.cell? ⟨gk, 2, none⟩ = some (.string (strOfNums (nums s3))) := (blk_cell HK4.out 2).trans rfl
                have y3 : V4.cell? ⟨gk, 3, none⟩ = some (.int .u64 x) := (blk_cell HK4.out 3).trans rfl
                have d0 : V4.cell? ⟨g0, 0, none⟩ = some (.string ⟨#[]⟩) := (blk_cell HA4.out.h0 0).trans rfl
                have d1 : V4.cell? ⟨g0, 1, none⟩ = some (.string ⟨#[]⟩) := (blk_cell HA4.out.h0 1).trans rfl
                have d2 : V4.cell? ⟨g0, 2, none⟩ = some (.string ⟨#[]⟩) := (blk_cell HA4.out.h0 2).trans rfl
                have d3 : V4.cell? ⟨g0, 3, none⟩ = some (.int .u64 0) := (blk_cell HA4.out.h0 3).trans rfl
                have f0 := blk_frozen HA4.out.h0 0
                have f1 := blk_frozen HA4.out.h0 1
                have f2 := blk_frozen HA4.out.h0 2
                have f3 := blk_frozen HA4.out.h0 3
                have HP := Aside0.mk (HA4.out.put (strOfNums (nums s1)) (strOfNums (nums s2)) (strOfNums (nums s3)) x)
                go_wp2_with fail
                obtain ⟨⟨e0, e1, e2, e3⟩, hbF⟩ := HP.out
                unfold put4 at e0 e1 e2 e3 hbF
                exact bodyPost_ret (v := .tuple #[.agg #[.string (strOfNums (nums s1)), .string (strOfNums (nums s2)), .string (strOfNums (nums s3)), .int .u64 x], .int .i64 0]) (by simp [results, Tryd.results22, go_sem, e0, e1, e2, e3]) rfl (ReadPost.good HX.out hbF)
              · rw [rightI_bad hk]
                have HKB := Aside0.mk hk
                clear hk
                have HX : Aside0 (readF bs = none) := ⟨by unfold readF; rw [HU1.out]; simp only []; rw [HU2.out]; simp only []; rw [HU3.out]; simp only []; rw [if_neg (fun h => by have h2 : okB (strOfNums (nums s1)) (strOfNums (nums s2)) (strOfNums (nums s3)) = true := h.2; rw [HKB.out] at h2; cases h2)]⟩
                have d0 : V4.cell? ⟨g0, 0, none⟩ = some (.string ⟨#[]⟩) := (blk_cell HA4.out.h0 0).trans rfl
                have d1 : V4.cell? ⟨g0, 1, none⟩ = some (.string ⟨#[]⟩) := (blk_cell HA4.out.h0 1).trans rfl
                have d2 : V4.cell? ⟨g0, 2, none⟩ = some (.string ⟨#[]⟩) := (blk_cell HA4.out.h0 2).trans rfl
                have d3 : V4.cell? ⟨g0, 3, none⟩ = some (.int .u64 0) := (blk_cell HA4.out.h0 3).trans rfl
                have f0 := blk_frozen HA4.out.h0 0
                have f1 := blk_frozen HA4.out.h0 1
                have f2 := blk_frozen HA4.out.h0 2
                have f3 := blk_frozen HA4.out.h0 3
                have HP := Aside0.mk (HA4.out.put ⟨#[]⟩ ⟨#[]⟩ ⟨#[]⟩ 0)
                go_wp2_with fail
                obtain ⟨⟨e0, e1, e2, e3⟩, hbF⟩ := HP.out
                unfold put4 at e0 e1 e2 e3 hbF
                exact bodyPost_ret (v := .tuple #[.agg #[.string ⟨#[]⟩, .string ⟨#[]⟩, .string ⟨#[]⟩, .int .u64 0], .int .i64 5]) (by simp [results, Tryd.results22, go_sem, e0, e1, e2, e3]) rfl (ReadPost.bad HX.out hbF)
        · have h8' : ((n3 : Int) != 8) = true := by rw [bne_iff_ne]; omega
          have H8 := Aside0.mk h8
          clear h8
          have HX : Aside0 (readF bs = none) := ⟨by unfold readF; rw [HU1.out]; simp only []; rw [HU2.out]; simp only []; rw [HU3.out]; simp only []; rw [if_neg (fun h => H8.out (HN3.out.symm.trans h.1))]⟩
          have d0 : W3.cell? ⟨g0, 0, none⟩ = some (.string ⟨#[]⟩) := (blk_cell HA3.out.h0 0).trans rfl
          have d1 : W3.cell? ⟨g0, 1, none⟩ = some (.string ⟨#[]⟩) := (blk_cell HA3.out.h0 1).trans rfl
          have d2 : W3.cell? ⟨g0, 2, none⟩ = some (.string ⟨#[]⟩) := (blk_cell HA3.out.h0 2).trans rfl
          have d3 : W3.cell? ⟨g0, 3, none⟩ = some (.int .u64 0) := (blk_cell HA3.out.h0 3).trans rfl
          have f0 := blk_frozen HA3.out.h0 0
          have f1 := blk_frozen HA3.out.h0 1
          have f2 := blk_frozen HA3.out.h0 2
          have f3 := blk_frozen HA3.out.h0 3
          have HP := Aside0.mk (HA3.out.put ⟨#[]⟩ ⟨#[]⟩ ⟨#[]⟩ 0)
          go_wp2_with fail
          obtain ⟨⟨e0, e1, e2, e3⟩, hbF⟩ := HP.out
          unfold put4 at e0 e1 e2 e3 hbF
          exact bodyPost_ret (v := .tuple #[.agg #[.string ⟨#[]⟩, .string ⟨#[]⟩, .string ⟨#[]⟩, .int .u64 0], .int .i64 5]) (by simp [results, Tryd.results22, go_sem, e0, e1, e2, e3]) rfl (ReadPost.bad HX.out hbF)
end Go.Proofs.YtfdnpnaacikgdaaDoor
