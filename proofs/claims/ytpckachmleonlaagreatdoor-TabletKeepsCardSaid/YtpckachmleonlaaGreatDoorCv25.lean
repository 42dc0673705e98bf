/- Words and walks for Split and Tablet: texts of these sessions, and of the kit's print, cut down to what is used (Cu R2). -/
import Derived.Test.YtpckachmleonlaaGreatDoorCv24
import Derived.Laws.BitsLemmas
import Derived.Test.YtpckachmleonlaaGreatDoorCv21
import Derived.Test.YtpckachmleonlaaGreatDoorCv23
section
set_option linter.unusedVariables false
set_option linter.unusedSimpArgs false
namespace Go.Proofs.YtpckachmleonlaaGreatDoor.Cp
open Go.RowKit Go.Proofs.YtpckachmleonlaaGreatDoorW.PrintWords
def strU (l : List UInt8) : ByteArray := strOfNums (nums l)
def beV (l : List UInt8) : Nat := l.foldl (fun a c => a * 256 + c.toNat) 0
theorem beV_snoc (l : List UInt8) (c : UInt8) : beV (l ++ [c]) = beV l * 256 + c.toNat := by simp [beV]
def readF (bs : List UInt8) : Option (ByteArray × ByteArray × ByteArray × Int) :=
 match unesc bs with
 | none => none
 | some (r, b1) =>
  match unesc b1 with
  | none => none
  | some (f, b2) =>
   match unesc b2 with
   | none => none
   | some (q, b3) => if b3.length = 8 ∧ okB (strU r) (strU f) (strU q) = true then some (strU r, strU f, strU q, timeX (beV b3)) else none
def zG (w : World) (o : Option (ByteArray × ByteArray × ByteArray × Int)) (e : Ending) (w' : World) : Prop :=
 match o with
 | some (r, f, q, t) => e = .returned (.tuple #[.agg #[.string r, .string f, .string q, .int .u64 t], .int .i64 0]) ∧ Below w.heap.size w w'
 | none => e = .returned (.tuple #[.agg #[.string ⟨#[]⟩, .string ⟨#[]⟩, .string ⟨#[]⟩, .int .u64 0], .int .i64 5]) ∧ Below w.heap.size w w'
theorem zG.bad {w w' : World} {o : Option (ByteArray × ByteArray × ByteArray × Int)} (h : o = none) (hb : Below w.heap.size w w') : zG w o (.returned (.tuple #[.agg #[.string ⟨#[]⟩, .string ⟨#[]⟩, .string ⟨#[]⟩, .int .u64 0], .int .i64 5])) w' := by
 subst h
 exact ⟨rfl, hb⟩
theorem zG.good {w w' : World} {o : Option (ByteArray × ByteArray × ByteArray × Int)} {r f q : ByteArray} {t : Int} (h : o = some (r, f, q, t)) (hb : Below w.heap.size w w') : zG w o (.returned (.tuple #[.agg #[.string r, .string f, .string q, .int .u64 t], .int .i64 0])) w' := by
 subst h
 exact ⟨rfl, hb⟩
theorem unesc_len : ∀ (n : Nat) (bs s r : List UInt8), bs.length ≤ n → unesc bs = some (s, r) → s.length + r.length ≤ bs.length
 | _, [], s, r, _, h => by cases h
 | 0, x :: bs, s, r, hl, h => by simp at hl
 | n + 1, x :: bs, s, r, hl, h => by
  unfold unesc at h
  split at h
  ·split at h
   ·cases h
   ·rename_i y r'
    split at h
    ·injection h with h
     injection h with h1 h2
     subst h1 h2
     simp
     omega
    ·split at h
     ·cases hu : unesc r' with
      | none => rw [hu] at h; cases h
      | some p =>
       rw [hu] at h
       injection h with h
       injection h with h1 h2
       subst h1 h2
       have := unesc_len n r' p.1 p.2 (by simp at hl; omega) hu
       simp
       omega
     ·cases h
  ·cases hu : unesc bs with
   | none => rw [hu] at h; cases h
   | some p =>
    rw [hu] at h
    injection h with h
    injection h with h1 h2
    subst h1 h2
    have := unesc_len n bs p.1 p.2 (by simp at hl; omega) hu
    simp
    omega
structure RAt (w W : World) (g0 ga : Nat) (a b c : ByteArray) : Prop where
 h0 : W.heap[g0]? = some (.cells #[.string ⟨#[]⟩, .string ⟨#[]⟩, .string ⟨#[]⟩, .int .u64 0] 46 (0, 0))
 h1 : W.heap[ga]? = some (.cells #[.string a, .string b, .string c] 183 (0, 0))
 below : Below w.heap.size w W
 l0 : w.heap.size ≤ g0
 l1 : w.heap.size ≤ ga
theorem RAt.keep {w W W' : World} {g0 ga : Nat} {a b c : ByteArray} (h : RAt w W g0 ga a b c) (hb : Below W.heap.size W W') : RAt w W' g0 ga a b c :=
 ⟨zAf h.h0 hb, zAf h.h1 hb, h.below.trans (hb.mono h.below.size), h.l0, h.l1⟩
theorem RAt.set0 {w W : World} {g0 ga : Nat} {a b c : ByteArray} (h : RAt w W g0 ga a b c) (hne : ga ≠ g0) (x : ByteArray) : RAt w (W.setCell ⟨ga, 0, none⟩ (.string x)) g0 ga x b c :=
 ⟨zDj h.h0 (fun e => hne e.symm) _, zBh h.h1 0 _, h.below.setCell h.l1 _, h.l0, h.l1⟩
theorem RAt.set1 {w W : World} {g0 ga : Nat} {a b c : ByteArray} (h : RAt w W g0 ga a b c) (hne : ga ≠ g0) (x : ByteArray) : RAt w (W.setCell ⟨ga, 1, none⟩ (.string x)) g0 ga a x c :=
 ⟨zDj h.h0 (fun e => hne e.symm) _, zBh h.h1 1 _, h.below.setCell h.l1 _, h.l0, h.l1⟩
theorem RAt.set2 {w W : World} {g0 ga : Nat} {a b c : ByteArray} (h : RAt w W g0 ga a b c) (hne : ga ≠ g0) (x : ByteArray) : RAt w (W.setCell ⟨ga, 2, none⟩ (.string x)) g0 ga a b x :=
 ⟨zDj h.h0 (fun e => hne e.symm) _, zBh h.h1 2 _, h.below.setCell h.l1 _, h.l0, h.l1⟩
theorem beV_go : ∀ (l : List UInt8) (a : Nat), l.foldl (fun a c => a * 256 + c.toNat) a < (a + 1) * 256 ^ l.length
 | [], a => by simp
 | c :: l, a => by
  have ih := beV_go l (a * 256 + c.toNat)
  have hc : c.toNat < 256 := c.toNat_lt
  rw [List.foldl_cons, List.length_cons, Nat.pow_succ]
  refine Nat.lt_of_lt_of_le ih ?_
  rw [Nat.mul_comm (256 ^ l.length) 256, ← Nat.mul_assoc]
  exact Nat.mul_le_mul_right _ (by omega)
theorem beV_lt (l : List UInt8) : beV l < 256 ^ l.length := by
 have := beV_go l 0
 unfold beV
 omega
theorem beV_lt7 {l : List UInt8} (h : l.length ≤ 7) : beV l < 72057594037927936 := by
 refine Nat.lt_of_lt_of_le (beV_lt l) ?_
 exact Nat.le_trans (Nat.pow_le_pow_right (by decide) h) (by decide)
theorem beV_take (l : List UInt8) (i : Nat) (h : i < l.length) : beV (l.take (i + 1)) = beV (l.take i) * 256 + (l.getD i 0).toNat := by
 rw [List.take_succ_eq_append_getElem h, beV_snoc, List.getD_eq_getElem?_getD, List.getElem?_eq_getElem h]
 rfl
theorem wrap_u64' {x : Int} (h0 : 0 ≤ x) (h1 : x < 18446744073709551616) : IntKind.u64.wrap x = x := by
 have : IntKind.u64.wrap x = x % 18446744073709551616 := by simp [IntKind.wrap, IntKind.bits, IntKind.signed]
 rw [this]
 omega
theorem or_byte (V : Nat) (c : UInt8) (h : V < 72057594037927936) : Go.bits .or .u64 ((V : Int) * 256) (c.toNat : Int) = (V : Int) * 256 + (c.toNat : Int) := by
 have hc : c.toNat < 256 := c.toNat_lt
 exact bits_join .u64 64 (by decide) (fun n h0 h1 => wrap_u64' h0 (by omega)) 8 _ _ (by omega) (by omega) (by omega) (by omega) (by omega) (by omega)
def put4 (W : World) (g : Nat) (a b c : ByteArray) (t : Int) : World := (((W.setCell ⟨g, 0, none⟩ (.string a)).setCell ⟨g, 1, none⟩ (.string b)).setCell ⟨g, 2, none⟩ (.string c)).setCell ⟨g, 3, none⟩ (.int .u64 t)
theorem RAt.put {w W : World} {g0 ga : Nat} {a b c : ByteArray} (h : RAt w W g0 ga a b c) (r f q : ByteArray) (t : Int) :
  ((put4 W g0 r f q t).cell? ⟨g0, 0, none⟩ = some (.string r) ∧ (put4 W g0 r f q t).cell? ⟨g0, 1, none⟩ = some (.string f) ∧ (put4 W g0 r f q t).cell? ⟨g0, 2, none⟩ = some (.string q) ∧ (put4 W g0 r f q t).cell? ⟨g0, 3, none⟩ = some (.int .u64 t)) ∧ Below w.heap.size w (put4 W g0 r f q t) := by
 have b1 := zBh (zBh (zBh (zBh h.h0 0 (.string r)) 1 (.string f)) 2 (.string q)) 3 (.int .u64 t)
 have hb := (((h.below.setCell (p := ⟨g0, 0, none⟩) h.l0 (.string r)).setCell (p := ⟨g0, 1, none⟩) h.l0 (.string f)).setCell (p := ⟨g0, 2, none⟩) h.l0 (.string q)).setCell (p := ⟨g0, 3, none⟩) h.l0 (.int .u64 t)
 exact ⟨⟨(zAc b1 0).trans rfl, (zAc b1 1).trans rfl, (zAc b1 2).trans rfl, (zAc b1 3).trans rfl⟩, hb⟩
set_option maxHeartbeats 4000000 in
set_option maxRecDepth 100000 in
theorem read_any (A : Option Addr) (n c : Nat) (bs : List UInt8) (w : World) (hn : bs.length = n) (hc : n ≤ c) (hl : n ≤ 100000) (hr : Kd.C kB w A n (nums bs)) :
  Calls Tryz.prog 128 #[.slice A n c] w (zG w (readF bs)) := by
 have HR := zAa.mk hr
 have HN := zAa.mk hn
 clear hr hn
 go_enter Tryz.func128, Tryz.ntmps128
 go_wp2_with fail
 have HA0 : zAa (RAt w ((w.alloc (Obj.cells #[Value.string ⟨#[]⟩, Value.string ⟨#[]⟩, Value.string ⟨#[]⟩, Value.int IntKind.u64 0] 46)).alloc (Obj.cells #[Value.string ⟨#[]⟩, Value.string ⟨#[]⟩, Value.string ⟨#[]⟩] 183)) w.heap.size (w.heap.size + 1) ⟨#[]⟩ ⟨#[]⟩ ⟨#[]⟩) :=
  ⟨⟨zAi (heap_alloc_new _ _) _, zFi _ _ _, zAb (zAb (Below.refl _ _) _) _, by omega, by omega⟩⟩
 generalize ((w.alloc (Obj.cells #[Value.string ⟨#[]⟩, Value.string ⟨#[]⟩, Value.string ⟨#[]⟩, Value.int IntKind.u64 0] 46)).alloc (Obj.cells #[Value.string ⟨#[]⟩, Value.string ⟨#[]⟩, Value.string ⟨#[]⟩] 183)) = W0 at HA0 ⊢
 have HG : zAa (w.heap.size + 1 ≠ w.heap.size) := ⟨by omega⟩
 generalize w.heap.size + 1 = ga at HA0 HG ⊢
 obtain ⟨g0, hg0⟩ : ∃ g0, w.heap.size = g0 := ⟨_, rfl⟩
 rw [hg0] at HA0 HG ⊢
 clear hg0
 refine wp_loop_rounds 4 ?_
 rw [rounds_succ]
 go_wp2_with fail
 refine (plain_any A n c bs w W0 HA0.out.below HN.out hc hl HR.out).mono ?_
 intro e V1 hp
 cases hu : unesc bs with
 | none =>
  unfold zEd at hp
  rw [hu] at hp
  obtain ⟨rfl, hb⟩ := hp
  have HB1 := zAa.mk (HA0.out.keep hb)
  have HX : zAa (readF bs = none) := ⟨by unfold readF; rw [hu]⟩
  clear hb hu
  have d0 : V1.cell? ⟨g0, 0, none⟩ = some (.string ⟨#[]⟩) := (zAc HB1.out.h0 0).trans rfl
  have d1 : V1.cell? ⟨g0, 1, none⟩ = some (.string ⟨#[]⟩) := (zAc HB1.out.h0 1).trans rfl
  have d2 : V1.cell? ⟨g0, 2, none⟩ = some (.string ⟨#[]⟩) := (zAc HB1.out.h0 2).trans rfl
  have d3 : V1.cell? ⟨g0, 3, none⟩ = some (.int .u64 0) := (zAc HB1.out.h0 3).trans rfl
  have f0 := zAd HB1.out.h0 0
  have f1 := zAd HB1.out.h0 1
  have f2 := zAd HB1.out.h0 2
  have f3 := zAd HB1.out.h0 3
  have HP := zAa.mk (HB1.out.put ⟨#[]⟩ ⟨#[]⟩ ⟨#[]⟩ 0)
  go_wp2_with fail
  obtain ⟨⟨e0, e1, e2, e3⟩, hbF⟩ := HP.out
  unfold put4 at e0 e1 e2 e3 hbF
  exact bodyPost_ret (v := .tuple #[.agg #[.string ⟨#[]⟩, .string ⟨#[]⟩, .string ⟨#[]⟩, .int .u64 0], .int .i64 5]) (by simp [results, Tryz.results128, go_sem, e0, e1, e2, e3]) rfl (zG.bad HX.out hbF)
 | some p =>
  obtain ⟨s1, r1⟩ := p
  unfold zEd at hp
  rw [hu] at hp
  obtain ⟨v, A1, k1, rfl, hR1, hC1, hle1, hb⟩ := hp
  have HU1 := zAa.mk hu
  have HC1 := zAa.mk hC1
  have hln := unesc_len bs.length bs s1 r1 (Nat.le_refl _) hu
  have HB1 := zAa.mk (HA0.out.keep hb)
  obtain ⟨Av1, cv1, ev⟩ := Kd.zAk hR1
  subst ev
  have hs1 := Kd.C_string (c := cv1) (P := Tryz.prog) Tryz.underlying47 Tryz.underlying5 Tryz.underlying9 (R_cap hR1).2
  have a1 : V1.cell? ⟨ga, 0, none⟩ = some (.string ⟨#[]⟩) := (zAc HB1.out.h1 0).trans rfl
  have z1 := zAd HB1.out.h1 0
  obtain ⟨n1, hn1⟩ : ∃ n1, r1.length = n1 := ⟨_, rfl⟩
  have HN1 := zAa.mk hn1
  have hl1 : n1 ≤ 100000 := by rw [HN.out] at hln; omega
  rw [hn1] at hle1 HC1
  rw [hn1]
  clear hu hC1 hb hR1 hln hn1
  go_wp2_with fail
  have HA1 := zAa.mk (HB1.out.set0 HG.out (strU s1))
  unfold strU at HA1
  generalize V1.setCell ⟨ga, 0, none⟩ (.string (strOfNums (nums s1))) = W1 at HA1 ⊢
  clear hs1 a1 z1
  rw [rounds_succ]
  go_wp2_with fail
  refine (plain_any A1 n1 k1 r1 w W1 HA1.out.below HN1.out hle1 hl1 HC1.out).mono ?_
  intro e V2 hp
  cases hu : unesc r1 with
  | none =>
   unfold zEd at hp
   rw [hu] at hp
   obtain ⟨rfl, hb⟩ := hp
   have HB2 := zAa.mk (HA1.out.keep hb)
   have HX : zAa (readF bs = none) := ⟨by unfold readF; rw [HU1.out]; simp only []; rw [hu]⟩
   clear hb hu
   have d0 : V2.cell? ⟨g0, 0, none⟩ = some (.string ⟨#[]⟩) := (zAc HB2.out.h0 0).trans rfl
   have d1 : V2.cell? ⟨g0, 1, none⟩ = some (.string ⟨#[]⟩) := (zAc HB2.out.h0 1).trans rfl
   have d2 : V2.cell? ⟨g0, 2, none⟩ = some (.string ⟨#[]⟩) := (zAc HB2.out.h0 2).trans rfl
   have d3 : V2.cell? ⟨g0, 3, none⟩ = some (.int .u64 0) := (zAc HB2.out.h0 3).trans rfl
   have f0 := zAd HB2.out.h0 0
   have f1 := zAd HB2.out.h0 1
   have f2 := zAd HB2.out.h0 2
   have f3 := zAd HB2.out.h0 3
   have HP := zAa.mk (HB2.out.put ⟨#[]⟩ ⟨#[]⟩ ⟨#[]⟩ 0)
   go_wp2_with fail
   obtain ⟨⟨e0, e1, e2, e3⟩, hbF⟩ := HP.out
   unfold put4 at e0 e1 e2 e3 hbF
   exact bodyPost_ret (v := .tuple #[.agg #[.string ⟨#[]⟩, .string ⟨#[]⟩, .string ⟨#[]⟩, .int .u64 0], .int .i64 5]) (by simp [results, Tryz.results128, go_sem, e0, e1, e2, e3]) rfl (zG.bad HX.out hbF)
  | some p =>
   obtain ⟨s2, r2⟩ := p
   unfold zEd at hp
   rw [hu] at hp
   obtain ⟨v, A2, k2, rfl, hR1, hC1, hle2, hb⟩ := hp
   have HU2 := zAa.mk hu
   have HC2 := zAa.mk hC1
   have hln := unesc_len r1.length r1 s2 r2 (Nat.le_refl _) hu
   have HB2 := zAa.mk (HA1.out.keep hb)
   obtain ⟨Av2, cv2, ev⟩ := Kd.zAk hR1
   subst ev
   have hs2 := Kd.C_string (c := cv2) (P := Tryz.prog) Tryz.underlying47 Tryz.underlying5 Tryz.underlying9 (R_cap hR1).2
   have a2 : V2.cell? ⟨ga, 1, none⟩ = some (.string ⟨#[]⟩) := (zAc HB2.out.h1 1).trans rfl
   have z2 := zAd HB2.out.h1 1
   obtain ⟨n2, hn2⟩ : ∃ n2, r2.length = n2 := ⟨_, rfl⟩
   have HN2 := zAa.mk hn2
   have hl2 : n2 ≤ 100000 := by rw [HN1.out] at hln; omega
   rw [hn2] at hle2 HC2
   rw [hn2]
   clear hu hC1 hb hR1 hln hn2
   go_wp2_with fail
   have HA2 := zAa.mk (HB2.out.set1 HG.out (strU s2))
   unfold strU at HA2
   generalize V2.setCell ⟨ga, 1, none⟩ (.string (strOfNums (nums s2))) = W2 at HA2 ⊢
   clear hs2 a2 z2
   rw [rounds_succ]
   go_wp2_with fail
   refine (plain_any A2 n2 k2 r2 w W2 HA2.out.below HN2.out hle2 hl2 HC2.out).mono ?_
   intro e V3 hp
   cases hu : unesc r2 with
   | none =>
    unfold zEd at hp
    rw [hu] at hp
    obtain ⟨rfl, hb⟩ := hp
    have HB3 := zAa.mk (HA2.out.keep hb)
    have HX : zAa (readF bs = none) := ⟨by unfold readF; rw [HU1.out]; simp only []; rw [HU2.out]; simp only []; rw [hu]⟩
    clear hb hu
    have d0 : V3.cell? ⟨g0, 0, none⟩ = some (.string ⟨#[]⟩) := (zAc HB3.out.h0 0).trans rfl
    have d1 : V3.cell? ⟨g0, 1, none⟩ = some (.string ⟨#[]⟩) := (zAc HB3.out.h0 1).trans rfl
    have d2 : V3.cell? ⟨g0, 2, none⟩ = some (.string ⟨#[]⟩) := (zAc HB3.out.h0 2).trans rfl
    have d3 : V3.cell? ⟨g0, 3, none⟩ = some (.int .u64 0) := (zAc HB3.out.h0 3).trans rfl
    have f0 := zAd HB3.out.h0 0
    have f1 := zAd HB3.out.h0 1
    have f2 := zAd HB3.out.h0 2
    have f3 := zAd HB3.out.h0 3
    have HP := zAa.mk (HB3.out.put ⟨#[]⟩ ⟨#[]⟩ ⟨#[]⟩ 0)
    go_wp2_with fail
    obtain ⟨⟨e0, e1, e2, e3⟩, hbF⟩ := HP.out
    unfold put4 at e0 e1 e2 e3 hbF
    exact bodyPost_ret (v := .tuple #[.agg #[.string ⟨#[]⟩, .string ⟨#[]⟩, .string ⟨#[]⟩, .int .u64 0], .int .i64 5]) (by simp [results, Tryz.results128, go_sem, e0, e1, e2, e3]) rfl (zG.bad HX.out hbF)
   | some p =>
    obtain ⟨s3, r3⟩ := p
    unfold zEd at hp
    rw [hu] at hp
    obtain ⟨v, A3, k3, rfl, hR1, hC1, hle3, hb⟩ := hp
    have HU3 := zAa.mk hu
    have HC3 := zAa.mk hC1
    have hln := unesc_len r2.length r2 s3 r3 (Nat.le_refl _) hu
    have HB3 := zAa.mk (HA2.out.keep hb)
    obtain ⟨Av3, cv3, ev⟩ := Kd.zAk hR1
    subst ev
    have hs3 := Kd.C_string (c := cv3) (P := Tryz.prog) Tryz.underlying47 Tryz.underlying5 Tryz.underlying9 (R_cap hR1).2
    have a3 : V3.cell? ⟨ga, 2, none⟩ = some (.string ⟨#[]⟩) := (zAc HB3.out.h1 2).trans rfl
    have z3 := zAd HB3.out.h1 2
    obtain ⟨n3, hn3⟩ : ∃ n3, r3.length = n3 := ⟨_, rfl⟩
    have HN3 := zAa.mk hn3
    have hl3 : n3 ≤ 100000 := by rw [HN2.out] at hln; omega
    rw [hn3] at hle3 HC3
    rw [hn3]
    clear hu hC1 hb hR1 hln hn3
    go_wp2_with fail
    have HA3 := zAa.mk (HB3.out.set2 HG.out (strU s3))
    unfold strU at HA3
    generalize V3.setCell ⟨ga, 2, none⟩ (.string (strOfNums (nums s3))) = W3 at HA3 ⊢
    clear hs3 a3 z3
    rw [rounds_succ]
    by_cases h8 : n3 = 8
    ·subst h8
     go_wp2_with fail
     go_loop [9, 38] (fun vt vi => ∃ i : Nat, i ≤ 8 ∧ vi = .int .i64 i ∧ vt = .int .u64 (beV (r3.take i) : Nat)) (fun _ vi => 8 - (intOf vi).toNat)
     case atStart => exact ⟨0, by omega, rfl, rfl⟩
     case round =>
      obtain ⟨i, hi, rfl, rfl⟩ := hrel
      by_cases hlt : i < 8
      ·obtain ⟨ad, rfl, c0⟩ := byteAt (Kd.zBb HC3.out HA3.out.below) i (by rw [HN3.out]; exact hlt)
       have h4 : (i : Int) < 8 := by omega
       obtain ⟨cc, hcc⟩ : ∃ cc, r3.getD i 0 = cc := ⟨_, rfl⟩
       rw [hcc] at c0
       obtain ⟨V, hV⟩ : ∃ V, beV (r3.take i) = V := ⟨_, rfl⟩
       have hVb : V < 72057594037927936 := by rw [← hV]; exact beV_lt7 (by rw [List.length_take]; omega)
       have HVS : zAa (beV (r3.take (i + 1)) = V * 256 + cc.toNat) := ⟨by rw [← hV, ← hcc]; exact beV_take r3 i (by rw [HN3.out]; exact hlt)⟩
       rw [hV]
       have o1 : IntKind.u64.wrap ((V : Int) * 256) = (V : Int) * 256 := wrap_u64' (by omega) (by omega)
       have o3 : IntKind.u64.wrap (cc.toNat : Int) = (cc.toNat : Int) := wrap_u64' (by omega) (by have := cc.toNat_lt; omega)
       have o2 : Go.bits .or .u64 ((V : Int) * 256) (cc.toNat : Int) = (V : Int) * 256 + (cc.toNat : Int) := or_byte V cc (by omega)
       clear hcc hV hVb
       go_wp2_with fail
       go_round
       case rel => exact ⟨i + 1, by omega, by go_num, by rw [HVS.out]; go_num⟩
       case measure => simp [intOf]; omega
      ·obtain rfl : i = 8 := by omega
       have htk : r3.take 8 = r3 := List.take_of_length_le (by rw [HN3.out]; exact Nat.le_refl _)
       rw [htk]
       obtain ⟨x, hx⟩ : ∃ x, timeX (beV r3) = x := ⟨_, rfl⟩
       have HXX := zAa.mk hx
       have hx' : IntKind.u64.wrap (18446744073709551615 - ((beV r3 : Nat) : Int)) = x := hx
       have b0 : W3.cell? ⟨ga, 0, none⟩ = some (.string (strOfNums (nums s1))) := (zAc HA3.out.h1 0).trans rfl
       have b1 : W3.cell? ⟨ga, 1, none⟩ = some (.string (strOfNums (nums s2))) := (zAc HA3.out.h1 1).trans rfl
       have b2 : W3.cell? ⟨ga, 2, none⟩ = some (.string (strOfNums (nums s3))) := (zAc HA3.out.h1 2).trans rfl
       clear htk hx
       go_wp2_with fail
       have HK : zAa ((W3.alloc (Obj.cells #[.string (strOfNums (nums s1)), .string (strOfNums (nums s2)), .string (strOfNums (nums s3)), .int .u64 x] 46)).heap[W3.heap.size]? = some (.cells #[.string (strOfNums (nums s1)), .string (strOfNums (nums s2)), .string (strOfNums (nums s3)), .int .u64 x] 46 (0, 0))) := ⟨heap_alloc_new _ _⟩
       have HA3' := zAa.mk (HA3.out.keep (zAb (Below.refl _ _) (Obj.cells #[.string (strOfNums (nums s1)), .string (strOfNums (nums s2)), .string (strOfNums (nums s3)), .int .u64 x] 46)))
       generalize (W3.alloc (Obj.cells #[.string (strOfNums (nums s1)), .string (strOfNums (nums s2)), .string (strOfNums (nums s3)), .int .u64 x] 46)) = W4 at HK HA3' ⊢
       generalize W3.heap.size = gk at HK ⊢
       clear hx' b0 b1 b2
       refine (right_any _ _ _ _ _).mono ?_
       rintro e V4 ⟨rfl, hb⟩
       have HA4 := zAa.mk (HA3'.out.keep hb)
       have HK4 := zAa.mk (zAf HK.out hb)
       clear hb
       rcases Bool.eq_false_or_eq_true (okB (strOfNums (nums s1)) (strOfNums (nums s2)) (strOfNums (nums s3))) with hk | hk
       ·rw [rightI_ok hk]
        have HX : zAa (readF bs = some (strOfNums (nums s1), strOfNums (nums s2), strOfNums (nums s3), x)) := ⟨by unfold readF; rw [HU1.out]; simp only []; rw [HU2.out]; simp only []; rw [HU3.out]; simp only []; rw [if_pos ⟨HN3.out, hk⟩, HXX.out]; rfl⟩
        clear hk
        have y0 : V4.cell? ⟨gk, 0, none⟩ = some (.string (strOfNums (nums s1))) := (zAc HK4.out 0).trans rfl
        have y1 : V4.cell? ⟨gk, 1, none⟩ = some (.string (strOfNums (nums s2))) := (zAc HK4.out 1).trans rfl
        have y2 : V4.cell? ⟨gk, 2, none⟩ = some (.string (strOfNums (nums s3))) := (zAc HK4.out 2).trans rfl
        have y3 : V4.cell? ⟨gk, 3, none⟩ = some (.int .u64 x) := (zAc HK4.out 3).trans rfl
        have d0 : V4.cell? ⟨g0, 0, none⟩ = some (.string ⟨#[]⟩) := (zAc HA4.out.h0 0).trans rfl
        have d1 : V4.cell? ⟨g0, 1, none⟩ = some (.string ⟨#[]⟩) := (zAc HA4.out.h0 1).trans rfl
        have d2 : V4.cell? ⟨g0, 2, none⟩ = some (.string ⟨#[]⟩) := (zAc HA4.out.h0 2).trans rfl
        have d3 : V4.cell? ⟨g0, 3, none⟩ = some (.int .u64 0) := (zAc HA4.out.h0 3).trans rfl
        have f0 := zAd HA4.out.h0 0
        have f1 := zAd HA4.out.h0 1
        have f2 := zAd HA4.out.h0 2
        have f3 := zAd HA4.out.h0 3
        have HP := zAa.mk (HA4.out.put (strOfNums (nums s1)) (strOfNums (nums s2)) (strOfNums (nums s3)) x)
        go_wp2_with fail
        obtain ⟨⟨e0, e1, e2, e3⟩, hbF⟩ := HP.out
        unfold put4 at e0 e1 e2 e3 hbF
        exact bodyPost_ret (v := .tuple #[.agg #[.string (strOfNums (nums s1)), .string (strOfNums (nums s2)), .string (strOfNums (nums s3)), .int .u64 x], .int .i64 0]) (by simp [results, Tryz.results128, go_sem, e0, e1, e2, e3]) rfl (zG.good HX.out hbF)
       ·rw [rightI_bad hk]
        have HKB := zAa.mk hk
        clear hk
        have HX : zAa (readF bs = none) := ⟨by unfold readF; rw [HU1.out]; simp only []; rw [HU2.out]; simp only []; rw [HU3.out]; simp only []; rw [if_neg (fun h => by have h2 : okB (strOfNums (nums s1)) (strOfNums (nums s2)) (strOfNums (nums s3)) = true := h.2; rw [HKB.out] at h2; cases h2)]⟩
        have d0 : V4.cell? ⟨g0, 0, none⟩ = some (.string ⟨#[]⟩) := (zAc HA4.out.h0 0).trans rfl
        have d1 : V4.cell? ⟨g0, 1, none⟩ = some (.string ⟨#[]⟩) := (zAc HA4.out.h0 1).trans rfl
        have d2 : V4.cell? ⟨g0, 2, none⟩ = some (.string ⟨#[]⟩) := (zAc HA4.out.h0 2).trans rfl
        have d3 : V4.cell? ⟨g0, 3, none⟩ = some (.int .u64 0) := (zAc HA4.out.h0 3).trans rfl
        have f0 := zAd HA4.out.h0 0
        have f1 := zAd HA4.out.h0 1
        have f2 := zAd HA4.out.h0 2
        have f3 := zAd HA4.out.h0 3
        have HP := zAa.mk (HA4.out.put ⟨#[]⟩ ⟨#[]⟩ ⟨#[]⟩ 0)
        go_wp2_with fail
        obtain ⟨⟨e0, e1, e2, e3⟩, hbF⟩ := HP.out
        unfold put4 at e0 e1 e2 e3 hbF
        exact bodyPost_ret (v := .tuple #[.agg #[.string ⟨#[]⟩, .string ⟨#[]⟩, .string ⟨#[]⟩, .int .u64 0], .int .i64 5]) (by simp [results, Tryz.results128, go_sem, e0, e1, e2, e3]) rfl (zG.bad HX.out hbF)
    ·have h8' : ((n3 : Int) != 8) = true := by rw [bne_iff_ne]; omega
     have H8 := zAa.mk h8
     clear h8
     have HX : zAa (readF bs = none) := ⟨by unfold readF; rw [HU1.out]; simp only []; rw [HU2.out]; simp only []; rw [HU3.out]; simp only []; rw [if_neg (fun h => H8.out (HN3.out.symm.trans h.1))]⟩
     have d0 : W3.cell? ⟨g0, 0, none⟩ = some (.string ⟨#[]⟩) := (zAc HA3.out.h0 0).trans rfl
     have d1 : W3.cell? ⟨g0, 1, none⟩ = some (.string ⟨#[]⟩) := (zAc HA3.out.h0 1).trans rfl
     have d2 : W3.cell? ⟨g0, 2, none⟩ = some (.string ⟨#[]⟩) := (zAc HA3.out.h0 2).trans rfl
     have d3 : W3.cell? ⟨g0, 3, none⟩ = some (.int .u64 0) := (zAc HA3.out.h0 3).trans rfl
     have f0 := zAd HA3.out.h0 0
     have f1 := zAd HA3.out.h0 1
     have f2 := zAd HA3.out.h0 2
     have f3 := zAd HA3.out.h0 3
     have HP := zAa.mk (HA3.out.put ⟨#[]⟩ ⟨#[]⟩ ⟨#[]⟩ 0)
     go_wp2_with fail
     obtain ⟨⟨e0, e1, e2, e3⟩, hbF⟩ := HP.out
     unfold put4 at e0 e1 e2 e3 hbF
     exact bodyPost_ret (v := .tuple #[.agg #[.string ⟨#[]⟩, .string ⟨#[]⟩, .string ⟨#[]⟩, .int .u64 0], .int .i64 5]) (by simp [results, Tryz.results128, go_sem, e0, e1, e2, e3]) rfl (zG.bad HX.out hbF)
end Go.Proofs.YtpckachmleonlaaGreatDoor.Cp
end
section
set_option linter.unusedVariables false
set_option linter.unusedSimpArgs false
namespace Go.Proofs.YtpckachmleonlaaGreatDoor
open Go.RowKit Go.Proofs.YtpckachmleonlaaGreatDoorW.PrintWords
abbrev CellM := PSplitCuts.S49
def cellV (x : CellM) (V : Option Addr) (c : Nat) : Value := .agg #[.string x.f0.f0, .string x.f0.f1, .string x.f0.f2, .int .u64 x.f0.f3, .slice V x.f1.length c, .bool x.f2]
def keyOf (x : CellM) : List Int := Cp.keyL x.f0.f0 x.f0.f1 x.f0.f2 ++ Cp.timeL (Cp.timeX x.f0.f3) 8
def valOf (x : CellM) : List Int := if x.f2 then [1] else 0 :: x.f1
def zDb (x : CellM) : It := (keyOf x, valOf x)
theorem C_rows2 {w : World} {b : Nat} {A1 A2 : Option Addr} {c1 c2 : Nat} {l1 l2 : List Int} (hb : w.heap[b]? = some (.cells #[.slice A1 l1.length c1, .slice A2 l2.length c2] 47 (0, 0)))
    (h1 : l1.length ≤ c1) (h2 : l2.length ≤ c2) (k1 : kB.C w A1 l1.length l1) (k2 : kB.C w A2 l2.length l2) : Kd.C (Kd.slice 5 kB) w (some ⟨b, 0, none⟩) [l1, l2].length [l1, l2] := by
  refine ⟨rfl, by simp, fun _ => ⟨_, rfl, fun j p hj => ?_⟩⟩
  have hj3 : j < 2 := (List.getElem?_eq_some_iff.1 hj).1
  have hc : ∀ v, (#[Value.slice A1 l1.length c1, Value.slice A2 l2.length c2] : Array Value)[j]? = some v → ∀ i u, [v][i]? = some u → w.cell? ((⟨b, 0, none⟩ : Addr).add (j * 1 + i)) = some u := by
    intro v hv i u hu
    have hi : i = 0 := by
      have := (List.getElem?_eq_some_iff.1 hu).1
      simpa using this
    subst hi
    simp only [List.getElem?_cons_zero, Option.some.injEq] at hu
    subst hu
    rw [add_plain, zAc hb]
    simpa using hv
  rcases (by omega : j = 0 ∨ j = 1) with rfl | rfl
  · obtain rfl := Option.some.inj hj
    exact ⟨[.slice A1 l1.length c1], rfl, ⟨A1, c1, rfl, h1, k1⟩, hc _ rfl⟩
  · obtain rfl := Option.some.inj hj
    exact ⟨[.slice A2 l2.length c2], rfl, ⟨A2, c2, rfl, h2, k2⟩, hc _ rfl⟩
theorem C_b1 {w : World} {g : Nat} {y : Int} {fz : Nat × Nat} (h : w.heap[g]? = some (.cells #[.int .u8 y] 5 fz)) : Kd.C kB w (some ⟨g, 0, none⟩) 1 [y] := by
  refine Kd.C_of_reads (d := 0) ⟨rfl, by simp, fun _ => ⟨_, rfl, fun j hj => ?_⟩⟩
  obtain rfl : j = 0 := by omega
  rw [Addr.add_mid, cell_of_row w g _ _ 5 fz h]
  rfl
theorem FF_b1 {w : World} {g base : Nat} {y : Int} (h : w.heap[g]? = some (.cells #[.int .u8 y] 5 (0, 0))) (hb : base ≤ g) : FF (fun W => BAt W ⟨some ⟨g, 0, none⟩, 1, 1⟩ [y]) (fun k => base ≤ k) w := fun W hW => ⟨rfl, Nat.le_refl _, C_b1 ((hW g hb (zAj h)).trans h)⟩
theorem Same_set2 {ok : Nat → Prop} {w : World} {g : Nat} {u v : Value} (hg : ¬ ok g) : Same_ ok w ((w.setCell ⟨g, 0, none⟩ u).setCell ⟨g, 1, none⟩ v) := fun k hk _ => by
  have e : k ≠ g := fun e => hg (e ▸ hk)
  rw [Below.heap_setCell _ _ _ k e, Below.heap_setCell _ _ _ k e]
set_option maxHeartbeats 4000000 in
set_option maxRecDepth 100000 in
theorem item_any (x : CellM) (V : Option Addr) (c : Nat) (w : World) (hk : Cp.okB x.f0.f0 x.f0.f1 x.f0.f2 = true) (hv : kB.C w V x.f1.length x.f1) (hc : x.f1.length ≤ c) (hl : x.f1.length ≤ 1000) :
    Calls Tryz.prog 112 #[cellV x V c] w fun e w' => ∃ A a B b, e = .returned (.agg #[.slice A (keyOf x).length a, .slice B (valOf x).length b]) ∧ FF (fun W => BAt W ⟨A, (keyOf x).length, a⟩ (keyOf x)) (fun k => w.heap.size ≤ k) w' ∧ FF (fun W => BAt W ⟨B, (valOf x).length, b⟩ (valOf x)) (fun k => w.heap.size ≤ k) w' ∧ Below w.heap.size w w' := by
  obtain ⟨⟨r, f, q, t⟩, val, gone⟩ := x
  have HK := zAa.mk hk
  have HV := zAa.mk (And.intro hv hc)
  simp only at hl
  unfold cellV
  simp only
  obtain ⟨vl, hvl⟩ : ∃ vl, val.length = vl := ⟨_, rfl⟩
  have HVL := zAa.mk hvl
  rw [hvl] at hl ⊢
  clear hk hv hc hvl
  go_enter Tryz.func112, Tryz.ntmps112
  go_wp2_with fail
  have hb0 : Below w.heap.size w ((w.alloc (.cells #[.string r, .string f, .string q, .int .u64 t, .slice V vl c, .bool gone] 49)).alloc (.cells #[.slice none 0 0, .slice none 0 0] 129)) := zAb (zAb (Below.refl _ _) _) _
  obtain ⟨W0, hW0⟩ : ∃ W0, W0 = (w.alloc (.cells #[.string r, .string f, .string q, .int .u64 t, .slice V vl c, .bool gone] 49)).alloc (.cells #[.slice none 0 0, .slice none 0 0] 129) := ⟨_, rfl⟩
  have b0 : W0.heap[w.heap.size]? = some (.cells #[.string r, .string f, .string q, .int .u64 t, .slice V vl c, .bool gone] 49 (0, 0)) := by
    rw [hW0]
    exact zAi (heap_alloc_new _ _) _
  have b1 : W0.heap[w.heap.size + 1]? = some (.cells #[.slice none 0 0, .slice none 0 0] 129 (0, 0)) := by
    rw [hW0]
    have h9 := heap_alloc_new (w.alloc (.cells #[.string r, .string f, .string q, .int .u64 t, .slice V vl c, .bool gone] 49)) (.cells #[.slice none 0 0, .slice none 0 0] 129)
    rw [World.size_alloc] at h9
    exact h9
  have hz0 : w.heap.size + 2 ≤ W0.heap.size := by rw [hW0]; simp
  rw [← hW0] at hb0 ⊢
  clear hW0
  refine (Cp.bytes_ok r f q t W0 HK.out).mono ?_
  rintro e w2 ⟨v2, rfl, hr, hb⟩
  obtain ⟨A2, c2, e2⟩ := Kd.zAk hr
  subst e2
  have HR2 := zAa.mk hr
  have HB2 := zAa.mk (bl_to hb0 hb)
  have HF2 := zAa.mk ((BAt_FF hr).mono (ok' := fun k => w.heap.size ≤ k ∧ k ≠ w.heap.size + 1) (fun k hk => ⟨by omega, by omega⟩))
  have HZ2 : zAa (w.heap.size + 2 ≤ w2.heap.size) := ⟨Nat.le_trans hz0 hb.size⟩
  have B0 := zAa.mk (zAf b0 hb)
  have B1 := zAa.mk (zAf b1 hb)
  obtain ⟨kl, hkl⟩ : ∃ kl, (Cp.keyL r f q ++ Cp.timeL (Cp.timeX t) 8).length = kl := ⟨_, rfl⟩
  have HKL := zAa.mk hkl
  rw [hkl]
  obtain ⟨g, hg⟩ : ∃ g, w.heap.size = g := ⟨_, rfl⟩
  have HG := zAa.mk hg
  rw [hg] at B0 B1 HZ2 ⊢
  have c0 : ∀ i, w2.cell? ⟨g, i, none⟩ = #[Value.string r, Value.string f, Value.string q, .int .u64 t, .slice V vl c, .bool gone][i]? := fun i => zAc B0.out i
  have f1 : w2.frozen? ⟨g + 1, 0, none⟩ = false := zAd B1.out 0
  have f2 : w2.frozen? ⟨g + 1, 1, none⟩ = false := zAd B1.out 1
  have c10 : w2.cell? ⟨g + 1, 0, none⟩ = some (.slice none 0 0) := zAc B1.out 0
  have c11 : w2.cell? ⟨g + 1, 1, none⟩ = some (.slice none 0 0) := zAc B1.out 1
  have hl0 := zAj B0.out
  have hl1 := zAj B1.out
  clear hr hb b0 b1 hb0 hkl hg hz0
  cases gone
  case true =>
    go_wp2_with fail
    have y0 : (((w2.setCell ⟨g + 1, 0, none⟩ (.slice A2 kl c2)).setCell ⟨g + 1, 1, none⟩ (.slice (some ⟨w2.heap.size, 0, none⟩) 1 1)).alloc (.cells #[.int .u8 1] 5)).heap[g + 1]? = some (.cells #[.slice A2 kl c2, .slice (some ⟨w2.heap.size, 0, none⟩) 1 1] 129 (0, 0)) := zAi ((zBh ((zBh B1.out 0 _).trans rfl) 1 _).trans rfl) _
    have y1 : (((w2.setCell ⟨g + 1, 0, none⟩ (.slice A2 kl c2)).setCell ⟨g + 1, 1, none⟩ (.slice (some ⟨w2.heap.size, 0, none⟩) 1 1)).alloc (.cells #[.int .u8 1] 5)).heap[w2.heap.size]? = some (.cells #[.int .u8 1] 5 (0, 0)) := by
      have h9 := heap_alloc_new ((w2.setCell ⟨g + 1, 0, none⟩ (.slice A2 kl c2)).setCell ⟨g + 1, 1, none⟩ (.slice (some ⟨w2.heap.size, 0, none⟩) 1 1)) (.cells #[.int .u8 1] 5)
      rw [World.size_setCell, World.size_setCell] at h9
      exact h9
    have e0 := (zAc y0 0).trans (rfl : _ = some (Value.slice A2 kl c2))
    have e1 := (zAc y0 1).trans (rfl : _ = some (Value.slice (some ⟨w2.heap.size, 0, none⟩) 1 1))
    refine bodyPost_ret (v := .agg #[.slice A2 kl c2, .slice (some ⟨w2.heap.size, 0, none⟩) 1 1]) (by simp [results, Tryz.results112, go_sem, e0, e1]) rfl ?_
    have hs : Same_ (fun k => w.heap.size ≤ k ∧ k ≠ w.heap.size + 1) w2 (((w2.setCell ⟨g + 1, 0, none⟩ (.slice A2 kl c2)).setCell ⟨g + 1, 1, none⟩ (.slice (some ⟨w2.heap.size, 0, none⟩) 1 1)).alloc (.cells #[.int .u8 1] 5)) := (Same_set2 (by rw [HG.out]; simp)).trans (Same_.of_below (zAb (Below.refl _ _) _))
    refine ⟨A2, c2, some ⟨w2.heap.size, 0, none⟩, 1, by rw [← HKL.out]; rfl, (HF2.out.step hs).mono (fun k hk => hk.1), FF_b1 y1 (by have := HZ2.out; have := HG.out; omega), zAb ((HB2.out.setCell (by rw [HG.out]; simp) _).setCell (by rw [HG.out]; simp) _) _⟩
  case false =>
    go_wp2_with fail
    have HW3 : zAa (Below w2.heap.size w2 ((w2.alloc (.cells #[.int .u8 0] 5)).alloc (.cells #[.slice (some ⟨w2.heap.size, 0, none⟩) 1 1, .slice V vl c] 47))) := ⟨zAb (zAb (Below.refl _ _) _) _⟩
    have h39 := concatB_any (some ⟨w2.heap.size + 1, 0, none⟩) 2 [[0], val] ((w2.alloc (.cells #[.int .u8 0] 5)).alloc (.cells #[.slice (some ⟨w2.heap.size, 0, none⟩) 1 1, .slice V vl c] 47)) (C_rows2 (A1 := some ⟨w2.heap.size, 0, none⟩) (c1 := 1) (A2 := V) (c2 := c) (by
      have h9 := heap_alloc_new (w2.alloc (.cells #[.int .u8 0] 5)) (.cells #[.slice (some ⟨w2.heap.size, 0, none⟩) 1 1, .slice V vl c] 47)
      rw [World.size_alloc] at h9
      rw [HVL.out]
      exact h9) (Nat.le_refl _) HV.out.2 (C_b1 (zAi (heap_alloc_new _ _) _)) (Kd.zBb HV.out.1 (HB2.out.trans (HW3.out.mono HB2.out.size)))) (by simp) (by have := HVL.out; simp; omega)
    refine h39.mono ?_
    rintro e w3 ⟨v3, rfl, hr3, hb3⟩
    obtain ⟨A3, c3, e3⟩ := Kd.zAk hr3
    subst e3
    have HB3 := zAa.mk (bl_to HW3.out hb3)
    have HF3 := zAa.mk ((BAt_FF hr3).mono (ok' := fun k => w.heap.size ≤ k ∧ k ≠ w.heap.size + 1) (fun k hk => by
      have h1 := HZ2.out
      have h2 := HG.out
      have h3 : w2.heap.size + 2 ≤ k := by simpa using hk
      exact ⟨by omega, by omega⟩))
    have HF2' := zAa.mk (HF2.out.keep HB3.out)
    have B3 := zAa.mk (zAf B1.out HB3.out)
    have HB4 := zAa.mk (bl_to HB2.out HB3.out)
    clear h39 hr3 hb3 c0 f1 f2 c10 c11 hl0 hl1
    obtain ⟨nv, hnv⟩ : ∃ nv, [[0], val].flatten.length = nv := ⟨_, rfl⟩
    have HNV := zAa.mk hnv
    rw [hnv]
    clear hnv
    have f1 : w3.frozen? ⟨g + 1, 0, none⟩ = false := zAd B3.out 0
    have f2 : w3.frozen? ⟨g + 1, 1, none⟩ = false := zAd B3.out 1
    have c10 : w3.cell? ⟨g + 1, 0, none⟩ = some (.slice none 0 0) := zAc B3.out 0
    have c11 : w3.cell? ⟨g + 1, 1, none⟩ = some (.slice none 0 0) := zAc B3.out 1
    have hl1 := zAj B3.out
    go_wp2_with fail
    have y0 : ((w3.setCell ⟨g + 1, 0, none⟩ (.slice A2 kl c2)).setCell ⟨g + 1, 1, none⟩ (.slice A3 nv c3)).heap[g + 1]? = some (.cells #[.slice A2 kl c2, .slice A3 nv c3] 129 (0, 0)) := (zBh ((zBh B3.out 0 _).trans rfl) 1 _).trans rfl
    have e0 := (zAc y0 0).trans (rfl : _ = some (Value.slice A2 kl c2))
    have e1 := (zAc y0 1).trans (rfl : _ = some (Value.slice A3 nv c3))
    refine bodyPost_ret (v := .agg #[.slice A2 kl c2, .slice A3 nv c3]) (by simp [results, Tryz.results112, go_sem, e0, e1]) rfl ?_
    have hs : Same_ (fun k => w.heap.size ≤ k ∧ k ≠ w.heap.size + 1) w3 ((w3.setCell ⟨g + 1, 0, none⟩ (.slice A2 kl c2)).setCell ⟨g + 1, 1, none⟩ (.slice A3 nv c3)) := Same_set2 (by rw [HG.out]; simp)
    refine ⟨A2, c2, A3, c3, by rw [← HKL.out, ← HNV.out]; simp [keyOf, valOf], (HF2'.out.step hs).mono (fun k hk => hk.1), ?_, (HB4.out.setCell (by rw [HG.out]; simp) _).setCell (by rw [HG.out]; simp) _⟩
    have h9 := (HF3.out.step hs).mono (fun k hk => hk.1)
    simpa [valOf] using h9
end Go.Proofs.YtpckachmleonlaaGreatDoor
end
