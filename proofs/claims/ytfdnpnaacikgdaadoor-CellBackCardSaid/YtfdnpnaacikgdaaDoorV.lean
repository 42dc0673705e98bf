/- Cell: the reference's key of bytes. -/
import Derived.Test.YtfdnpnaacikgdaaDoorU
import Derived.Test.YtfdnpnaacikgdaaDoorL
/- The reference's Read. -/
set_option linter.unusedVariables false
set_option linter.unusedSimpArgs false
namespace Go.Proofs.YtfdnpnaacikgdaaDoor
open Go.RowKit Go.Proofs.YtfdnpnaacikgdaaDoorW.PrintWords

def rV (l : List UInt8) : Nat := l.foldl (fun a c => a * 256 + (255 - c.toNat)) 0
theorem rV_snoc (l : List UInt8) (c : UInt8) : rV (l ++ [c]) = rV l * 256 + (255 - c.toNat) := by simp [rV]
theorem rV_go : ∀ (l : List UInt8) (a b : Nat), l.foldl (fun a c => a * 256 + (255 - c.toNat)) a + l.foldl (fun a c => a * 256 + c.toNat) b + 1 = (a + b + 1) * 256 ^ l.length
  | [], a, b => by simp
  | c :: l, a, b => by
    have ih := rV_go l (a * 256 + (255 - c.toNat)) (b * 256 + c.toNat)
    have hc : c.toNat < 256 := c.toNat_lt
    have e : a * 256 + (255 - c.toNat) + (b * 256 + c.toNat) + 1 = (a + b + 1) * 256 := by omega
    rw [List.foldl_cons, List.foldl_cons, List.length_cons, ih, e, Nat.mul_assoc, Nat.pow_succ, Nat.mul_comm (256 ^ l.length)]
theorem rV_beV (l : List UInt8) : rV l + beV l + 1 = 256 ^ l.length := by
  have := rV_go l 0 0
  unfold rV beV
  omega
theorem rV_lt7 {l : List UInt8} (h : l.length ≤ 7) : rV l < 72057594037927936 := by
  have h1 := rV_beV l
  have h2 : 256 ^ l.length ≤ 256 ^ 7 := Nat.pow_le_pow_right (by decide) h
  have h3 : 256 ^ 7 = 72057594037927936 := by decide
  omega
theorem rV_take (l : List UInt8) (i : Nat) (h : i < l.length) : rV (l.take (i + 1)) = rV (l.take i) * 256 + (255 - (l.getD i 0).toNat) := by
  rw [List.take_succ_eq_append_getElem h, rV_snoc, List.getD_eq_getElem?_getD, List.getElem?_eq_getElem h]
  rfl
theorem timeX_rV {l : List UInt8} (h : l.length = 8) : timeX (beV l) = ((rV l : Nat) : Int) := by
  have h1 := rV_beV l
  rw [h] at h1
  have h3 : 256 ^ 8 = 18446744073709551616 := by decide
  unfold timeX
  rw [wrap_u64' (by omega) (by omega)]
  omega
theorem C_nil (w : World) : Kd.C kB w none 0 (nums []) := ⟨rfl, by omega, fun h => absurd h (by omega)⟩
theorem refRight_any (a b c : ByteArray) (t : Int) (w : World) :
    Calls Tryd.prog 16 #[.agg #[.string a, .string b, .string c, .int .u64 t]] w fun e w' => e = .returned (.int .i64 (rightI a b c)) ∧ Below w.heap.size w w' :=
  PCell.bulwarkref04_Right.calls a b c t _ w (PCell.refRight_f a b c t)
/-- The result's variable in memory. -/
structure QAt (w W : World) (g0 : Nat) : Prop where
  h0 : W.heap[g0]? = some (.cells #[.string ⟨#[]⟩, .string ⟨#[]⟩, .string ⟨#[]⟩, .int .u64 0] 24 (0, 0))
  below : Below w.heap.size w W
  l0 : w.heap.size ≤ g0
theorem QAt.keep {w W W' : World} {g0 : Nat} (h : QAt w W g0) (hb : Below W.heap.size W W') : QAt w W' g0 :=
  ⟨blk_below h.h0 hb, h.below.trans (hb.mono h.below.size), h.l0⟩
theorem QAt.put {w W : World} {g0 : Nat} (h : QAt w W g0) (r f q : ByteArray) (t : Int) :
    ((put4 W g0 r f q t).cell? ⟨g0, 0, none⟩ = some (.string r) ∧ (put4 W g0 r f q t).cell? ⟨g0, 1, none⟩ = some (.string f) ∧ (put4 W g0 r f q t).cell? ⟨g0, 2, none⟩ = some (.string q) ∧ (put4 W g0 r f q t).cell? ⟨g0, 3, none⟩ = some (.int .u64 t)) ∧ Below w.heap.size w (put4 W g0 r f q t) := by
  have b1 := blk_set (blk_set (blk_set (blk_set h.h0 0 (.string r)) 1 (.string f)) 2 (.string q)) 3 (.int .u64 t)
  have hb := (((h.below.setCell (p := ⟨g0, 0, none⟩) h.l0 (.string r)).setCell (p := ⟨g0, 1, none⟩) h.l0 (.string f)).setCell (p := ⟨g0, 2, none⟩) h.l0 (.string q)).setCell (p := ⟨g0, 3, none⟩) h.l0 (.int .u64 t)
  exact ⟨⟨(blk_cell b1 0).trans rfl, (blk_cell b1 1).trans rfl, (blk_cell b1 2).trans rfl, (blk_cell b1 3).trans rfl⟩, hb⟩
set_option maxHeartbeats 4000000 in
set_option maxRecDepth 100000 in
theorem refRead_any (A : Option Addr) (n c : Nat) (bs : List UInt8) (w : World) (hn : bs.length = n) (hc : n ≤ c) (hl : n ≤ 100000) (hr : Kd.C kB w A n (nums bs)) :
    Calls Tryd.prog 23 #[.slice A n c] w (ReadPost w (readF bs)) := by
  have HR := Aside0.mk hr
  have HN := Aside0.mk hn
  clear hr hn
  have HA0 : Aside0 (QAt w (w.alloc (Obj.cells #[Value.string ⟨#[]⟩, Value.string ⟨#[]⟩, Value.string ⟨#[]⟩, Value.int IntKind.u64 0] 24)) w.heap.size) := ⟨⟨heap_alloc_new _ _, below_alloc (Below.refl _ _) _, by omega⟩⟩
  go_enter Tryd.func23, Tryd.ntmps23
  go_wp2_with fail
  generalize (w.alloc (Obj.cells #[Value.string ⟨#[]⟩, Value.string ⟨#[]⟩, Value.string ⟨#[]⟩, Value.int IntKind.u64 0] 24)) = W0 at HA0 ⊢
  obtain ⟨g0, hg0⟩ : ∃ g0, w.heap.size = g0 := ⟨_, rfl⟩
  rw [hg0] at HA0 ⊢
  clear hg0
  refine (cut_any A n c bs w W0 HA0.out.below HN.out hc hl HR.out).mono ?_
  intro e W1 hp
  cases hu : unesc bs with
  | none =>
    unfold CutPost at hp
    rw [hu] at hp
    obtain ⟨rfl, hb⟩ := hp
    have HU := Aside0.mk hu
    have HB1 := Aside0.mk (HA0.out.keep hb)
    clear hb hu
    go_wp2_with fail
    refine (cut_any none 0 0 [] w W1 HB1.out.below rfl (Nat.le_refl _) (by omega) (C_nil w)).mono ?_
    intro e X2 hp
    obtain ⟨rfl, hb⟩ := hp
    have HX2 := Aside0.mk (HB1.out.keep hb)
    clear hb
    go_wp2_with fail
    refine (cut_any none 0 0 [] w X2 HX2.out.below rfl (Nat.le_refl _) (by omega) (C_nil w)).mono ?_
    intro e X3 hp
    obtain ⟨rfl, hb⟩ := hp
    have HX3 := Aside0.mk (HX2.out.keep hb)
    clear hb
    have HX : Aside0 (readF bs = none) := ⟨by unfold readF; rw [HU.out]⟩
    have d0 : X3.cell? ⟨g0, 0, none⟩ = some (.string ⟨#[]⟩) := (blk_cell HX3.out.h0 0).trans rfl
    have d1 : X3.cell? ⟨g0, 1, none⟩ = some (.string ⟨#[]⟩) := (blk_cell HX3.out.h0 1).trans rfl
    have d2 : X3.cell? ⟨g0, 2, none⟩ = some (.string ⟨#[]⟩) := (blk_cell HX3.out.h0 2).trans rfl
    have d3 : X3.cell? ⟨g0, 3, none⟩ = some (.int .u64 0) := (blk_cell HX3.out.h0 3).trans rfl
    have f0 := blk_frozen HX3.out.h0 0
    have f1 := blk_frozen HX3.out.h0 1
    have f2 := blk_frozen HX3.out.h0 2
    have f3 := blk_frozen HX3.out.h0 3
    have HP := Aside0.mk (HX3.out.put ⟨#[]⟩ ⟨#[]⟩ ⟨#[]⟩ 0)
    go_wp2_with fail
    obtain ⟨⟨e0, e1, e2, e3⟩, hbF⟩ := HP.out
    unfold put4 at e0 e1 e2 e3 hbF
    exact bodyPost_ret (v := .tuple #[.agg #[.string ⟨#[]⟩, .string ⟨#[]⟩, .string ⟨#[]⟩, .int .u64 0], .int .i64 5]) (by simp [results, Tryd.results23, go_sem, e0, e1, e2, e3]) rfl (ReadPost.bad HX.out hbF)
  | some p =>
    obtain ⟨s1, r1⟩ := p
    unfold CutPost at hp
    rw [hu] at hp
    obtain ⟨A1, k1, rfl, hC1, hle1, hb⟩ := hp
    have HU1 := Aside0.mk hu
    have HC1 := Aside0.mk hC1
    have hln := unesc_len bs.length bs s1 r1 (Nat.le_refl _) hu
    have HA1 := Aside0.mk (HA0.out.keep hb)
    obtain ⟨n1, hn1⟩ : ∃ n1, r1.length = n1 := ⟨_, rfl⟩
    have HN1 := Aside0.mk hn1
    have hl1 : n1 ≤ 100000 := by rw [HN.out] at hln; omega
    rw [hn1] at hle1 HC1
    rw [hn1]
    clear hu hC1 hb hln hn1
    go_wp2_with fail
    refine (cut_any A1 n1 k1 r1 w W1 HA1.out.below HN1.out hle1 hl1 HC1.out).mono ?_
    intro e W2 hp
    cases hu : unesc r1 with
    | none =>
      unfold CutPost at hp
      rw [hu] at hp
      obtain ⟨rfl, hb⟩ := hp
      have HU := Aside0.mk hu
      have HB2 := Aside0.mk (HA1.out.keep hb)
      clear hb hu
      go_wp2_with fail
      refine (cut_any none 0 0 [] w W2 HB2.out.below rfl (Nat.le_refl _) (by omega) (C_nil w)).mono ?_
      intro e X3 hp
      obtain ⟨rfl, hb⟩ := hp
      have HX3 := Aside0.mk (HB2.out.keep hb)
      clear hb
      have HX : Aside0 (readF bs = none) := ⟨by unfold readF; rw [HU1.out]; simp only []; rw [HU.out]⟩
      have d0 : X3.cell? ⟨g0, 0, none⟩ = some (.string ⟨#[]⟩) := (blk_cell HX3.out.h0 0).trans rfl
      have d1 : X3.cell? ⟨g0, 1, none⟩ = some (.string ⟨#[]⟩) := (blk_cell HX3.out.h0 1).trans rfl
      have d2 : X3.cell? ⟨g0, 2, none⟩ = some (.string ⟨#[]⟩) := (blk_cell HX3.out.h0 2).trans rfl
      have d3 : X3.cell? ⟨g0, 3, none⟩ = some (.int .u64 0) := (blk_cell HX3.out.h0 3).trans rfl
      have f0 := blk_frozen HX3.out.h0 0
      have f1 := blk_frozen HX3.out.h0 1
      have f2 := blk_frozen HX3.out.h0 2
      have f3 := blk_frozen HX3.out.h0 3
      have HP := Aside0.mk (HX3.out.put ⟨#[]⟩ ⟨#[]⟩ ⟨#[]⟩ 0)
      go_wp2_with fail
      obtain ⟨⟨e0, e1, e2, e3⟩, hbF⟩ := HP.out
      unfold put4 at e0 e1 e2 e3 hbF
      exact bodyPost_ret (v := .tuple #[.agg #[.string ⟨#[]⟩, .string ⟨#[]⟩, .string ⟨#[]⟩, .int .u64 0], .int .i64 5]) (by simp [results, Tryd.results23, go_sem, e0, e1, e2, e3]) rfl (ReadPost.bad HX.out hbF)
    | some p =>
      obtain ⟨s2, r2⟩ := p
      unfold CutPost at hp
      rw [hu] at hp
      obtain ⟨A2, k2, rfl, hC1, hle2, hb⟩ := hp
      have HU2 := Aside0.mk hu
      have HC2 := Aside0.mk hC1
      have hln := unesc_len r1.length r1 s2 r2 (Nat.le_refl _) hu
      have HA2 := Aside0.mk (HA1.out.keep hb)
      obtain ⟨n2, hn2⟩ : ∃ n2, r2.length = n2 := ⟨_, rfl⟩
      have HN2 := Aside0.mk hn2
      have hl2 : n2 ≤ 100000 := by rw [HN1.out] at hln; omega
      rw [hn2] at hle2 HC2
      rw [hn2]
      clear hu hC1 hb hln hn2
      go_wp2_with fail
      refine (cut_any A2 n2 k2 r2 w W2 HA2.out.below HN2.out hle2 hl2 HC2.out).mono ?_
      intro e W3 hp
      cases hu : unesc r2 with
      | none =>
        unfold CutPost at hp
        rw [hu] at hp
        obtain ⟨rfl, hb⟩ := hp
        have HU := Aside0.mk hu
        have HB3 := Aside0.mk (HA2.out.keep hb)
        clear hb hu
        have HX : Aside0 (readF bs = none) := ⟨by unfold readF; rw [HU1.out]; simp only []; rw [HU2.out]; simp only []; rw [HU.out]⟩
        have d0 : W3.cell? ⟨g0, 0, none⟩ = some (.string ⟨#[]⟩) := (blk_cell HB3.out.h0 0).trans rfl
        have d1 : W3.cell? ⟨g0, 1, none⟩ = some (.string ⟨#[]⟩) := (blk_cell HB3.out.h0 1).trans rfl
        have d2 : W3.cell? ⟨g0, 2, none⟩ = some (.string ⟨#[]⟩) := (blk_cell HB3.out.h0 2).trans rfl
        have d3 : W3.cell? ⟨g0, 3, none⟩ = some (.int .u64 0) := (blk_cell HB3.out.h0 3).trans rfl
        have f0 := blk_frozen HB3.out.h0 0
        have f1 := blk_frozen HB3.out.h0 1
        have f2 := blk_frozen HB3.out.h0 2
        have f3 := blk_frozen HB3.out.h0 3
        have HP := Aside0.mk (HB3.out.put ⟨#[]⟩ ⟨#[]⟩ ⟨#[]⟩ 0)
        go_wp2_with fail
        obtain ⟨⟨e0, e1, e2, e3⟩, hbF⟩ := HP.out
        unfold put4 at e0 e1 e2 e3 hbF
        exact bodyPost_ret (v := .tuple #[.agg #[.string ⟨#[]⟩, .string ⟨#[]⟩, .string ⟨#[]⟩, .int .u64 0], .int .i64 5]) (by simp [results, Tryd.results23, go_sem, e0, e1, e2, e3]) rfl (ReadPost.bad HX.out hbF)
      | some p =>
        obtain ⟨s3, r3⟩ := p
        unfold CutPost at hp
        rw [hu] at hp
        obtain ⟨A3, k3, rfl, hC1, hle3, hb⟩ := hp
        have HU3 := Aside0.mk hu
        have HC3 := Aside0.mk hC1
        have hln := unesc_len r2.length r2 s3 r3 (Nat.le_refl _) hu
        have HA3 := Aside0.mk (HA2.out.keep hb)
        obtain ⟨n3, hn3⟩ : ∃ n3, r3.length = n3 := ⟨_, rfl⟩
        have HN3 := Aside0.mk hn3
        have hl3 : n3 ≤ 100000 := by rw [HN2.out] at hln; omega
        rw [hn3] at hle3 HC3
        rw [hn3]
        clear hu hC1 hb hln hn3
        by_cases h8 : n3 = 8
        · subst h8
          go_wp2_with fail
          go_loop [11, 12] (fun vt vi => ∃ i : Nat, i ≤ 8 ∧ vi = .int .i64 i ∧ vt = .int .u64 (rV (r3.take i) : Nat)) (fun _ vi => 8 - (intOf vi).toNat)
          case atStart => exact ⟨0, by omega, rfl, rfl⟩
          case round =>
            obtain ⟨i, hi, rfl, rfl⟩ := hrel
            by_cases hlt : i < 8
            · obtain ⟨ad, rfl, c0⟩ := byteAt (Kd.C_below HC3.out HA3.out.below) i (by rw [HN3.out]; exact hlt)
              have h4 : (i : Int) < 8 := by omega
              obtain ⟨cc, hcc⟩ : ∃ cc, r3.getD i 0 = cc := ⟨_, rfl⟩
              rw [hcc] at c0
              obtain ⟨V, hV⟩ : ∃ V, rV (r3.take i) = V := ⟨_, rfl⟩
              have hVb : V < 72057594037927936 := by rw [← hV]; exact rV_lt7 (by rw [List.length_take]; omega)
              have HVS : Aside0 (rV (r3.take (i + 1)) = V * 256 + (255 - cc.toNat)) := ⟨by rw [← hV, ← hcc]; exact rV_take r3 i (by rw [HN3.out]; exact hlt)⟩
              rw [hV]
              have hcl : cc.toNat < 256 := cc.toNat_lt
              obtain ⟨dd, hdd⟩ : ∃ dd : Nat, cc.toNat = 255 - dd ∧ dd ≤ 255 := ⟨255 - cc.toNat, by omega, by omega⟩
              have o1 : IntKind.u64.wrap ((V : Int) * 256) = (V : Int) * 256 := wrap_u64' (by omega) (by omega)
              have o3 : IntKind.u64.wrap (255 - (cc.toNat : Int)) = 255 - (cc.toNat : Int) := wrap_u64' (by omega) (by omega)
              have o4 : IntKind.u64.wrap ((V : Int) * 256 + (255 - (cc.toNat : Int))) = (V : Int) * 256 + (255 - (cc.toNat : Int)) := wrap_u64' (by omega) (by omega)
              clear hcc hV hVb hdd
              go_wp2_with fail
              go_round
              case rel => exact ⟨i + 1, by omega, by go_num, by rw [HVS.out]; go_num⟩
              case measure => simp [intOf]; omega
            · obtain rfl : i = 8 := by omega
              have htk : r3.take 8 = r3 := List.take_of_length_le (by rw [HN3.out]; exact Nat.le_refl _)
              rw [htk]
              have HXX : Aside0 (timeX (beV r3) = ((rV r3 : Nat) : Int)) := ⟨timeX_rV HN3.out⟩
              obtain ⟨x, hx⟩ : ∃ x : Int, ((rV r3 : Nat) : Int) = x := ⟨_, rfl⟩
              rw [hx] at HXX ⊢
              clear htk hx
              go_wp2_with fail
              have HK : Aside0 ((W3.alloc (Obj.cells #[.string (strOfNums (nums s1)), .string (strOfNums (nums s2)), .string (strOfNums (nums s3)), .int .u64 x] 24)).heap[W3.heap.size]? = some (.cells #[.string (strOfNums (nums s1)), .string (strOfNums (nums s2)), .string (strOfNums (nums s3)), .int .u64 x] 24 (0, 0))) := ⟨heap_alloc_new _ _⟩
              have HA3' := Aside0.mk (HA3.out.keep (below_alloc (Below.refl _ _) (Obj.cells #[.string (strOfNums (nums s1)), .string (strOfNums (nums s2)), .string (strOfNums (nums s3)), .int .u64 x] 24)))
              generalize (W3.alloc (Obj.cells #[.string (strOfNums (nums s1)), .string (strOfNums (nums s2)), .string (strOfNums (nums s3)), .int .u64 x] 24)) = W4 at HK HA3' ⊢
              generalize W3.heap.size = gk at HK ⊢
              refine (refRight_any _ _ _ _ _).mono ?_
              rintro e V4 ⟨rfl, hb⟩
              have HA4 := Aside0.mk (HA3'.out.keep hb)
              have HK4 := Aside0.mk (blk_below HK.out hb)
              clear hb
              rcases Bool.eq_false_or_eq_true (okB (strOfNums (nums s1)) (strOfNums (nums s2)) (strOfNums (nums s3))) with hk | hk
              · rw [rightI_ok hk]
                have HX : Aside0 (readF bs = some (strOfNums (nums s1), strOfNums (nums s2), strOfNums (nums s3), x)) := ⟨by unfold readF; rw [HU1.out]; simp only []; rw [HU2.out]; simp only []; rw [HU3.out]; simp only []; rw [if_pos ⟨HN3.out, hk⟩, HXX.out]; rfl⟩
                clear hk
                have y0 : V4.cell? ⟨gk, 0, none⟩ = some (.string (strOfNums (nums s1))) := (blk_cell HK4.out 0).trans rfl
                have y1 : V4.cell? ⟨gk, 1, none⟩ = some (.string (strOfNums (nums s2))) := (blk_cell HK4.out 1).trans rfl
                have y2 : V4.cell? ⟨gk, 2, none⟩ = some (.string (strOfNums (nums s3))) := (blk_cell HK4.out 2).trans rfl
                have y3 : V4.cell? ⟨gk, 3, none⟩ = some (.int .u64 x) := (blk_cell HK4.out 3).trans rfl
                have d0 : V4.cell? ⟨g0, 0, none⟩ = some (.string ⟨#[]⟩) := (blk_cell HA4.out.h0 0).trans rfl
                have d1 : V4.cell? ⟨g0, 1, none⟩ = some (.string ⟨#[]⟩) := (blk_cell HA4.out.h0 1).trans rfl
                have d2 : V4.cell? ⟨g0, 2, none⟩ = some (.string ⟨#[]⟩) := (blk_cell HA4.out.h0 2).trans rfl
                have d3 : V4.cell? ⟨g0, 3, none⟩ = some (.int .u64 0) := (blk_cell HA4.out.h0 3).trans rfl
                have f0 := blk_frozen HA4.out.h0 0
                have f1 := blk_frozen HA4.out.h0 1
                have f2 := blk_frozen HA4.out.h0 2
                have f3 := blk_frozen HA4.out.h0 3
                have HP := Aside0.mk (HA4.out.put (strOfNums (nums s1)) (strOfNums (nums s2)) (strOfNums (nums s3)) x)
                go_wp2_with fail
                obtain ⟨⟨e0, e1, e2, e3⟩, hbF⟩ := HP.out
                unfold put4 at e0 e1 e2 e3 hbF
                exact bodyPost_ret (v := .tuple #[.agg #[.string (strOfNums (nums s1)), .string (strOfNums (nums s2)), .string (strOfNums (nums s3)), .int .u64 x], .int .i64 0]) (by simp [results, Tryd.results23, go_sem, e0, e1, e2, e3]) rfl (ReadPost.good HX.out hbF)
              · rw [rightI_bad hk]
                have HKB := Aside0.mk hk
                clear hk
                have HX : Aside0 (readF bs = none) := ⟨by unfold readF; rw [HU1.out]; simp only []; rw [HU2.out]; simp only []; rw [HU3.out]; simp only []; rw [if_neg (fun h => by have h2 : okB (strOfNums (nums s1)) (strOfNums (nums s2)) (strOfNums (nums s3)) = true := h.2; rw [HKB.out] at h2; cases h2)]⟩
                have d0 : V4.cell? ⟨g0, 0, none⟩ = some (.string ⟨#[]⟩) := (blk_cell HA4.out.h0 0).trans rfl
                have d1 : V4.cell? ⟨g0, 1, none⟩ = some (.string ⟨#[]⟩) := (blk_cell HA4.out.h0 1).trans rfl
                have d2 : V4.cell? ⟨g0, 2, none⟩ = some (.string ⟨#[]⟩) := (blk_cell HA4.out.h0 2).trans rfl
                have d3 : V4.cell? ⟨g0, 3, none⟩ = some (.int .u64 0) := (blk_cell HA4.out.h0 3).trans rfl
                have f0 := blk_frozen HA4.out.h0 0
                have f1 := blk_frozen HA4.out.h0 1
                have f2 := blk_frozen HA4.out.h0 2
                have f3 := blk_frozen HA4.out.h0 3
                have HP := Aside0.mk (HA4.out.put ⟨#[]⟩ ⟨#[]⟩ ⟨#[]⟩ 0)
                go_wp2_with fail
                obtain ⟨⟨e0, e1, e2, e3⟩, hbF⟩ := HP.out
                unfold put4 at e0 e1 e2 e3 hbF
                exact bodyPost_ret (v := .tuple #[.agg #[.string ⟨#[]⟩, .string ⟨#[]⟩, .string ⟨#[]⟩, .int .u64 0], .int .i64 5]) (by simp [results, Tryd.results23, go_sem, e0, e1, e2, e3]) rfl (ReadPost.bad HX.out hbF)
        · have h8' : ((n3 : Int) != 8) = true := by rw [bne_iff_ne]; omega
          have H8 := Aside0.mk h8
          clear h8
          have HX : Aside0 (readF bs = none) := ⟨by unfold readF; rw [HU1.out]; simp only []; rw [HU2.out]; simp only []; rw [HU3.out]; simp only []; rw [if_neg (fun h => H8.out (HN3.out.symm.trans h.1))]⟩
          have d0 : W3.cell? ⟨g0, 0, none⟩ = some (.string ⟨#[]⟩) := (blk_cell HA3.out.h0 0).trans rfl
          have d1 : W3.cell? ⟨g0, 1, none⟩ = some (.string ⟨#[]⟩) := (blk_cell HA3.out.h0 1).trans rfl
          have d2 : W3.cell? ⟨g0, 2, none⟩ = some (.string ⟨#[]⟩) := (blk_cell HA3.out.h0 2).trans rfl
          have d3 : W3.cell? ⟨g0, 3, none⟩ = some (.int .u64 0) := (blk_cell HA3.out.h0 3).trans rfl
          have f0 := blk_frozen HA3.out.h0 0
          have f1 := blk_frozen HA3.out.h0 1
          have f2 := blk_frozen HA3.out.h0 2
          have f3 := blk_frozen HA3.out.h0 3
          have HP := Aside0.mk (HA3.out.put ⟨#[]⟩ ⟨#[]⟩ ⟨#[]⟩ 0)
          go_wp2_with fail
          obtain ⟨⟨e0, e1, e2, e3⟩, hbF⟩ := HP.out
          unfold put4 at e0 e1 e2 e3 hbF
          exact bodyPost_ret (v := .tuple #[.agg #[.string ⟨#[]⟩, .string ⟨#[]⟩, .string ⟨#[]⟩, .int .u64 0], .int .i64 5]) (by simp [results, Tryd.results23, go_sem, e0, e1, e2, e3]) rfl (ReadPost.bad HX.out hbF)
end Go.Proofs.YtfdnpnaacikgdaaDoor
