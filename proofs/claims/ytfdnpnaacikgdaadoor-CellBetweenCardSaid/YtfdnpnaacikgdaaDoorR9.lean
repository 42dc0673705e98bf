/- Cell: the law CellBetween in plain words, and at its call. -/
import Derived.Test.YtfdnpnaacikgdaaDoorN
import Derived.Test.YtfdnpnaacikgdaaDoorZ1
import Derived.Test.YtfdnpnaacikgdaaDoorPBelowx
import Derived.Deep.RegionWith
/- The law CellBetween. -/
set_option linter.unusedVariables false
set_option linter.unusedSimpArgs false
namespace Go.Proofs.YtfdnpnaacikgdaaDoor.PCell
open Go.RowKit Go.Proofs.YtfdnpnaacikgdaaDoorW.PrintWords Go.Proofs.YtfdnpnaacikgdaaDoorW.PrintMore

def belB (x y : List UInt8) : Bool := decide (cmpL x y < 0)
theorem below_f (a b : List UInt8) (k : Nat) (ha : a.length ≤ 10000) (hb : b.length ≤ 10000) (hk : 30000 ≤ k) : PBelow.bulwarkref04_Below.f k (nums a) (nums b) = some (belB a b) := by
  unfold PBelow.bulwarkref04_Below.f
  have s : ∀ l : List UInt8, (strOfNums (nums l)).size = l.length := fun l => by rw [← data_length, strOf_nums]
  rw [text_f _ _ k (by rw [s]; exact ha) (by rw [s]; exact hb) hk, strOf_nums, strOf_nums]
  rfl
theorem below_any (A B : Option Addr) (n m c d : Nat) (a b : List UInt8) (w : World) (hn : n = (nums a).length) (hm : m = (nums b).length) (ha : a.length ≤ 10000) (hb : b.length ≤ 10000) (hc : (nums a).length ≤ c) (hd : (nums b).length ≤ d) (h1 : Kd.C kB w A (nums a).length (nums a)) (h2 : Kd.C kB w B (nums b).length (nums b)) :
    Calls Tryd.prog 25 #[.slice A n c, .slice B m d] w fun e w' => e = .returned (.bool (belB a b)) ∧ ∃ n, w' = w.drewN n := by
  subst hn hm
  refine (PBelow.bulwarkref04_Below.calls 100000 A c (nums a) B d (nums b) (belB a b) w h1 hc h2 hd (below_f a b _ ha hb (by omega))).mono ?_
  rintro e w' ⟨rfl, h⟩
  exact ⟨rfl, h.out⟩
theorem cmpL_nil1 {u : List UInt8} (h : u ≠ []) : cmpL u [] = 1 := by
  cases u with
  | nil => exact absurd rfl h
  | cons a u => rfl
theorem cmpL_full : ∀ (s : List UInt8) (n : Nat) (v : List UInt8), s.length < n → cmpL (rep s ++ 0 :: v) (List.replicate n 255) = -1
  | [], n + 1, v, _ => by
    rw [List.replicate_succ]
    exact cmpL_lt (by decide) _ _
  | x :: s, n + 1, v, h => by
    have ih := cmpL_full s n v (by simpa using h)
    rw [List.replicate_succ]
    by_cases hx : x = 0
    · subst hx
      simp only [rep, beq_self_eq_true, if_true, List.nil_append, List.cons_append, List.append_assoc]
      exact cmpL_lt (by decide) _ _
    · have hb : (x == 0) = false := by simpa using hx
      simp only [rep, hb, List.nil_append, List.cons_append, List.append_assoc, Bool.false_eq_true, if_false]
      by_cases h255 : x = 255
      · subst h255
        rw [cmpL_cons]
        exact ih
      · refine cmpL_lt ?_ _ _
        have h1 : x.toNat < 256 := x.toNat_lt
        have h2 : x.toNat ≠ 255 := fun e => h255 (UInt8.toNat_inj.1 (by simpa using e))
        show x.toNat < (255 : UInt8).toNat
        have h3 : (255 : UInt8).toNat = 255 := rfl
        omega
theorem key_below (r f q s : ByteArray) (t : Int) : belB (keyU r f q t) (escL s) = decide (cmpL r.data.toList s.data.toList < 0) := by
  unfold belB keyU escL
  have := cmpL_esc r.data.toList s.data.toList (rep f.data.toList ++ [0, 1] ++ (rep q.data.toList ++ [0, 1] ++ timeU t)) []
  rw [List.append_nil] at this
  rw [this, cmpL_nil1 (by simp)]
  by_cases h : cmpL r.data.toList s.data.toList = 0
  · rw [if_pos h, h]
    rfl
  · rw [if_neg h]
theorem key_full (r f q : ByteArray) (t : Int) (h : r.size ≤ 32) : belB (keyU r f q t) (List.replicate 33 255) = true := by
  unfold belB keyU escL
  have := cmpL_full r.data.toList 33 (1 :: (rep f.data.toList ++ [0, 1] ++ (rep q.data.toList ++ [0, 1] ++ timeU t))) (by rw [data_length]; omega)
  simp only [List.append_assoc, List.cons_append, List.nil_append] at this ⊢
  rw [this]
  rfl
/-- Is the row one of them? -/
def isB (r a b : ByteArray) : Bool := !decide (cmpL r.data.toList a.data.toList < 0) && (decide (b.size = 0) || decide (cmpL r.data.toList b.data.toList < 0))
theorem between (r f q a b : ByteArray) (t : Int) (h : r.size ≤ 32) : (!belB (keyU r f q t) (escL a) && belB (keyU r f q t) (hiL b)) = isB r a b := by
  unfold isB hiL
  rw [key_below]
  by_cases hb : b.size = 0
  · rw [if_pos hb, key_full r f q t h, decide_eq_true hb]
    simp
  · rw [if_neg hb, key_below, decide_eq_false hb]
    simp
theorem less_cmpL (x y : ByteArray) : Op.bytesLess x.toList y.toList = decide (cmpL x.data.toList y.data.toList < 0) := by
  rw [ByteArray.toList_eq, ByteArray.toList_eq]
  exact (bytesLess_cmpL _ _).1
theorem alive_any (w : World) : Calls Tryd.prog 11 #[] w fun e w' => e = .returned (.bool true) ∧ Below w.heap.size w w' :=
  bulwarklaw04_alive.calls 100000 true w (alive_f _ (by omega))

set_option maxHeartbeats 8000000 in
set_option maxRecDepth 100000 in
theorem between_main (r f q : ByteArray) (t : Int) (a b : ByteArray) (W : World) (h0 : 0 ≤ t) (h1 : t < 18446744073709551616) (hl : bulwarklaw04_Light.f r f q t = some true) (ha : a.size ≤ 100) (hb : b.size ≤ 100) (hk : okB r f q = true) (hs : a.size ≤ 32 ∧ b.size ≤ 32) :
    Calls Tryd.prog 9 #[.agg #[.string r, .string f, .string q, .int .u64 t], .string a, .string b] W fun e w' => e = .returned (.bool true) ∧ Below W.heap.size W w' := by
  have HL := Aside0.mk hl
  have HK := Aside0.mk hk
  have HS := Aside0.mk hs
  have HU := Aside0.mk (keyU_nums (r := r) (f := f) (q := q) h0 h1)
  have HN := Aside0.mk (keyB_len r f q t hk)
  have d1 : decide ((100 : Int) < (a.size : Int)) = false := df (by omega)
  have d1' : decide (100 < a.size) = false := df (by omega)
  have d2 : decide ((100 : Int) < (b.size : Int)) = false := df (by omega)
  have d2' : decide (100 < b.size) = false := df (by omega)
  obtain ⟨x1, hx1⟩ : ∃ x, Op.bytesLess r.toList a.toList = x := ⟨_, rfl⟩
  obtain ⟨x2, hx2⟩ : ∃ x, b.toList.isEmpty = x := ⟨_, rfl⟩
  obtain ⟨x3, hx3⟩ : ∃ x, Op.bytesLess r.toList b.toList = x := ⟨_, rfl⟩
  obtain ⟨b1, hb1⟩ : ∃ x, belB (keyU r f q t) (escL a) = x := ⟨_, rfl⟩
  obtain ⟨b2, hb2⟩ : ∃ x, belB (keyU r f q t) (hiL b) = x := ⟨_, rfl⟩
  have hbt : (!b1 && b2) = (!x1 && (x2 || x3)) := by
    have h := between r f q a b t (by have := of_decide_eq_true hk; omega)
    unfold isB at h
    rw [hb1, hb2, ← less_cmpL, ← less_cmpL, hx1, hx3] at h
    rw [h, ← hx2]
    congr 2
    rw [Bool.eq_iff_iff, decide_eq_true_eq]
    exact ⟨fun e => by
      rcases Bool.eq_false_or_eq_true b.toList.isEmpty with he | he
      · exact he
      · have := size_pos he; omega, fun e => size_zero e⟩
  have B1 := Aside0.mk hb1
  have B2 := Aside0.mk hb2
  have HBT := Aside0.mk hbt
  have la : Aside0 ((escL a).length ≤ 10000) := ⟨by have := escL_length a (by omega); rw [nums_len] at this; omega⟩
  have lb : Aside0 ((hiL b).length ≤ 10000) := ⟨by
    unfold hiL
    split
    · simp
    · have := escL_length b (by omega); rw [nums_len] at this; omega⟩
  clear hl hk hs ha hb hb1 hb2 hbt h0 h1
  go_enter Tryd.func9, Tryd.ntmps9
  go_wp2_with fail
  have HX : Aside0 ((W.alloc (.cells #[.string r, .string f, .string q, .int .u64 t] 24)).heap[W.heap.size]? = some (.cells #[.string r, .string f, .string q, .int .u64 t] 24 (0, 0))) := ⟨heap_alloc_new W _⟩
  have HB0 : Aside0 (Below W.heap.size W (W.alloc (.cells #[.string r, .string f, .string q, .int .u64 t] 24))) := ⟨below_alloc (Below.refl _ _) _⟩
  generalize W.alloc (.cells #[.string r, .string f, .string q, .int .u64 t] 24) = w0 at HX HB0 ⊢
  obtain ⟨g, hg⟩ : ∃ g, W.heap.size = g := ⟨_, rfl⟩
  have HG := Aside0.mk hg
  rw [hg] at HX ⊢
  clear hg
  refine (bulwarklaw04_Light.calls r f q t true _ HL.out).mono ?_
  rintro e w1 ⟨rfl, hb⟩
  have HX1 := Aside0.mk (blk_below HX.out hb)
  have HB1 := Aside0.mk (HB0.out.trans (hb.mono HB0.out.size))
  clear hb
  have c0 : w1.cell? ⟨g, 0, none⟩ = some (.string r) := (blk_cell HX1.out 0).trans rfl
  have c1 : w1.cell? ⟨g, 1, none⟩ = some (.string f) := (blk_cell HX1.out 1).trans rfl
  have c2 : w1.cell? ⟨g, 2, none⟩ = some (.string q) := (blk_cell HX1.out 2).trans rfl
  have c3 : w1.cell? ⟨g, 3, none⟩ = some (.int .u64 t) := (blk_cell HX1.out 3).trans rfl
  go_wp2_with fail
  refine (bytes_ok r f q t _ HK.out).mono ?_
  rintro e w2 ⟨v, rfl, hr, hb⟩
  rw [HU.out] at hr
  have HX2 := Aside0.mk (blk_below HX1.out hb)
  have HB2 := Aside0.mk (HB1.out.trans (hb.mono HB1.out.size))
  have HR2 := Aside0.mk hr
  clear hb hr c0 c1 c2 c3
  obtain ⟨Ab, nb, eb⟩ := Kd.R_slice HR2.out
  subst eb
  go_wp2_with fail
  refine (rows_ok a b _ HS.out).mono ?_
  rintro e w3 ⟨A1, A2, k1, k2, rfl, hl1, hl2, hc1, hc2, hb⟩
  have HX3 := Aside0.mk (blk_below HX2.out hb)
  have HB3 := Aside0.mk (HB2.out.trans (hb.mono HB2.out.size))
  have HCb := Aside0.mk (Kd.C_below (R_cap HR2.out).2 hb)
  have HLb := Aside0.mk (R_cap HR2.out).1
  have HL1 := Aside0.mk hl1
  have HL2 := Aside0.mk hl2
  have HC1 := Aside0.mk hc1
  have HC2 := Aside0.mk hc2
  have HKl : Aside0 ((keyU r f q t).length ≤ 10000) := ⟨by have := HN.out; rw [HU.out, nums_len] at this; exact this⟩
  clear hb hl1 hl2 hc1 hc2
  obtain ⟨m0, hm0⟩ : ∃ m, (nums (keyU r f q t)).length = m := ⟨_, rfl⟩
  obtain ⟨m1, hm1⟩ : ∃ m, (nums (escL a)).length = m := ⟨_, rfl⟩
  obtain ⟨m2, hm2⟩ : ∃ m, (nums (hiL b)).length = m := ⟨_, rfl⟩
  have M0 := Aside0.mk hm0.symm
  have M1 := Aside0.mk hm1.symm
  have M2 := Aside0.mk hm2.symm
  rw [hm0, hm1, hm2]
  clear hm0 hm1 hm2
  go_wp2_with fail
  refine (below_any _ _ _ _ _ _ (keyU r f q t) (escL a) _ M0.out M1.out HKl.out la.out HLb.out HL1.out HCb.out HC1.out).mono ?_
  rintro e w4 ⟨rfl, ⟨nd, rfl⟩⟩
  rw [B1.out]
  cases b1 with
  | true =>
    have HBW : Aside0 (Below W.heap.size W (w3.drewN nd)) := ⟨pw_below_drewN HB3.out nd⟩
    cases b2
    all_goals
      have c0 : w3.cell? ⟨g, 0, none⟩ = some (.string r) := (blk_cell HX3.out 0).trans rfl
      have hbt := HBT.out
      cases x1 <;> cases x2 <;> cases x3
      all_goals first
        | (exfalso; exact absurd hbt (by decide))
        | (clear hbt
           go_wp2_with fail
           refine (alive_any _).mono ?_
           rintro e w9 ⟨rfl, hb9⟩
           have HB9 := Aside0.mk (HBW.out.trans (hb9.mono HBW.out.size))
           clear hb9
           go_wp2_with fail
           go_ret
           exact ⟨rfl, HB9.out⟩)
  | false =>
    go_wp2_with fail
    refine (below_any _ _ _ _ _ _ (keyU r f q t) (hiL b) _ M0.out M2.out HKl.out lb.out HLb.out HL2.out (Kd.C_below HCb.out (pw_below_drewN (Below.refl _ _) nd)) (Kd.C_below HC2.out (pw_below_drewN (Below.refl _ _) nd))).mono ?_
    rintro e w5 ⟨rfl, ⟨ne, rfl⟩⟩
    rw [B2.out]
    have HBW : Aside0 (Below W.heap.size W (w3.drewN (nd + ne))) := ⟨pw_below_drewN HB3.out (nd + ne)⟩
    cases b2
    all_goals
      have c0 : w3.cell? ⟨g, 0, none⟩ = some (.string r) := (blk_cell HX3.out 0).trans rfl
      have hbt := HBT.out
      cases x1 <;> cases x2 <;> cases x3
      all_goals first
        | (exfalso; exact absurd hbt (by decide))
        | (clear hbt
           go_wp2_with fail
           refine (alive_any _).mono ?_
           rintro e w9 ⟨rfl, hb9⟩
           have HB9 := Aside0.mk (HBW.out.trans (hb9.mono HBW.out.size))
           clear hb9
           go_wp2_with fail
           go_ret
           exact ⟨rfl, HB9.out⟩)
theorem CellBetween_law (r f q : ByteArray) (t : Int) (a b : ByteArray) (W : World) (wt : (Lit.int .u64 t).wf = true) (_ : a.size ≤ maxLen) (_ : b.size ≤ maxLen) :
    Calls Tryd.prog 9 #[.agg #[.string r, .string f, .string q, .int .u64 t], .string a, .string b] W fun e w' => e = .returned (.bool true) ∧ Below W.heap.size W w' := by
  obtain ⟨lb, hlb, _⟩ := light_f r f q t
  have HL := Aside0.mk hlb
  clear hlb
  cases lb with
  | false =>
    go_enter Tryd.func9, Tryd.ntmps9
    go_wp2_with fail
    have HX : Aside0 ((W.alloc (.cells #[.string r, .string f, .string q, .int .u64 t] 24)).heap[W.heap.size]? = some (.cells #[.string r, .string f, .string q, .int .u64 t] 24 (0, 0))) := ⟨heap_alloc_new W _⟩
    have HB0 : Aside0 (Below W.heap.size W (W.alloc (.cells #[.string r, .string f, .string q, .int .u64 t] 24))) := ⟨below_alloc (Below.refl _ _) _⟩
    generalize W.alloc (.cells #[.string r, .string f, .string q, .int .u64 t] 24) = w0 at HX HB0 ⊢
    obtain ⟨g, hg⟩ : ∃ g, W.heap.size = g := ⟨_, rfl⟩
    have HG := Aside0.mk hg
    rw [hg] at HX ⊢
    clear hg
    refine (bulwarklaw04_Light.calls r f q t false _ HL.out).mono ?_
    rintro e w1 ⟨rfl, hb1⟩
    have HX1 := Aside0.mk (blk_below HX.out hb1)
    have HB1 := Aside0.mk (HB0.out.trans (hb1.mono HB0.out.size))
    clear hb1
    go_wp2_with fail
    refine (alive_any _).mono ?_
    rintro e w9 ⟨rfl, hb9⟩
    have HB9 := Aside0.mk (HB1.out.trans (hb9.mono HB1.out.size))
    clear hb9
    go_wp2_with fail
    go_ret
    exact ⟨rfl, HB9.out⟩
  | true =>
    by_cases ha : a.size ≤ 100
    · by_cases hb : b.size ≤ 100
      · rcases Bool.eq_false_or_eq_true (okB r f q) with hk | hk
        · by_cases hs : a.size ≤ 32 ∧ b.size ≤ 32
          · exact between_main r f q t a b W (u64_wf wt).1 (u64_wf wt).2 HL.out ha hb hk hs
          · have HK := Aside0.mk hk
            have HS := Aside0.mk hs
            have da : decide ((100 : Int) < (a.size : Int)) = false := df (by omega)
            have da' : decide (100 < a.size) = false := df (by omega)
            have db : decide ((100 : Int) < (b.size : Int)) = false := df (by omega)
            have db' : decide (100 < b.size) = false := df (by omega)
            clear hk hs ha hb
            go_enter Tryd.func9, Tryd.ntmps9
            go_wp2_with fail
            have HX : Aside0 ((W.alloc (.cells #[.string r, .string f, .string q, .int .u64 t] 24)).heap[W.heap.size]? = some (.cells #[.string r, .string f, .string q, .int .u64 t] 24 (0, 0))) := ⟨heap_alloc_new W _⟩
            have HB0 : Aside0 (Below W.heap.size W (W.alloc (.cells #[.string r, .string f, .string q, .int .u64 t] 24))) := ⟨below_alloc (Below.refl _ _) _⟩
            generalize W.alloc (.cells #[.string r, .string f, .string q, .int .u64 t] 24) = w0 at HX HB0 ⊢
            obtain ⟨g, hg⟩ : ∃ g, W.heap.size = g := ⟨_, rfl⟩
            have HG := Aside0.mk hg
            rw [hg] at HX ⊢
            clear hg
            refine (bulwarklaw04_Light.calls r f q t true _ HL.out).mono ?_
            rintro e w1 ⟨rfl, hb1⟩
            have HX1 := Aside0.mk (blk_below HX.out hb1)
            have HB1 := Aside0.mk (HB0.out.trans (hb1.mono HB0.out.size))
            clear hb1
            have c0 : w1.cell? ⟨g, 0, none⟩ = some (.string r) := (blk_cell HX1.out 0).trans rfl
            have c1 : w1.cell? ⟨g, 1, none⟩ = some (.string f) := (blk_cell HX1.out 1).trans rfl
            have c2 : w1.cell? ⟨g, 2, none⟩ = some (.string q) := (blk_cell HX1.out 2).trans rfl
            have c3 : w1.cell? ⟨g, 3, none⟩ = some (.int .u64 t) := (blk_cell HX1.out 3).trans rfl
            go_wp2_with fail
            refine (bytes_ok r f q t _ HK.out).mono ?_
            rintro e w2 ⟨v, rfl, hr, hb2⟩
            have HB2 := Aside0.mk (HB1.out.trans (hb2.mono HB1.out.size))
            have HR2 := Aside0.mk hr
            clear hb2 hr c0 c1 c2 c3
            obtain ⟨Ab, nb, eb⟩ := Kd.R_slice HR2.out
            subst eb
            go_wp2_with fail
            refine (rows_bad a b _ HS.out).mono ?_
            rintro e w3 ⟨rfl, hb3⟩
            have HB3 := Aside0.mk (HB2.out.trans (hb3.mono HB2.out.size))
            clear hb3
            go_wp2_with fail
            refine (alive_any _).mono ?_
            rintro e w9 ⟨rfl, hb9⟩
            have HB9 := Aside0.mk (HB3.out.trans (hb9.mono HB3.out.size))
            clear hb9
            go_wp2_with fail
            go_ret
            exact ⟨rfl, HB9.out⟩
        · have HK := Aside0.mk hk
          have da : decide ((100 : Int) < (a.size : Int)) = false := df (by omega)
          have da' : decide (100 < a.size) = false := df (by omega)
          have db : decide ((100 : Int) < (b.size : Int)) = false := df (by omega)
          have db' : decide (100 < b.size) = false := df (by omega)
          by_cases hs : a.size ≤ 32 ∧ b.size ≤ 32
          · have HS := Aside0.mk hs
            clear hk hs ha hb
            go_enter Tryd.func9, Tryd.ntmps9
            go_wp2_with fail
            have HX : Aside0 ((W.alloc (.cells #[.string r, .string f, .string q, .int .u64 t] 24)).heap[W.heap.size]? = some (.cells #[.string r, .string f, .string q, .int .u64 t] 24 (0, 0))) := ⟨heap_alloc_new W _⟩
            have HB0 : Aside0 (Below W.heap.size W (W.alloc (.cells #[.string r, .string f, .string q, .int .u64 t] 24))) := ⟨below_alloc (Below.refl _ _) _⟩
            generalize W.alloc (.cells #[.string r, .string f, .string q, .int .u64 t] 24) = w0 at HX HB0 ⊢
            obtain ⟨g, hg⟩ : ∃ g, W.heap.size = g := ⟨_, rfl⟩
            have HG := Aside0.mk hg
            rw [hg] at HX ⊢
            clear hg
            refine (bulwarklaw04_Light.calls r f q t true _ HL.out).mono ?_
            rintro e w1 ⟨rfl, hb1⟩
            have HX1 := Aside0.mk (blk_below HX.out hb1)
            have HB1 := Aside0.mk (HB0.out.trans (hb1.mono HB0.out.size))
            clear hb1
            have c0 : w1.cell? ⟨g, 0, none⟩ = some (.string r) := (blk_cell HX1.out 0).trans rfl
            have c1 : w1.cell? ⟨g, 1, none⟩ = some (.string f) := (blk_cell HX1.out 1).trans rfl
            have c2 : w1.cell? ⟨g, 2, none⟩ = some (.string q) := (blk_cell HX1.out 2).trans rfl
            have c3 : w1.cell? ⟨g, 3, none⟩ = some (.int .u64 t) := (blk_cell HX1.out 3).trans rfl
            go_wp2_with fail
            refine (bytes_bad r f q t _ HK.out).mono ?_
            rintro e w2 ⟨v, rfl, hr, hb2⟩
            have HB2 := Aside0.mk (HB1.out.trans (hb2.mono HB1.out.size))
            have HR2 := Aside0.mk hr
            clear hb2 hr c0 c1 c2 c3
            obtain ⟨Ab, nb, eb⟩ := Kd.R_slice HR2.out
            subst eb
            go_wp2_with fail
            refine (rows_ok a b _ HS.out).mono ?_
            rintro e w3 ⟨A1, A2, k1, k2, rfl, hl1, hl2, hc1, hc2, hb3⟩
            have HB3 := Aside0.mk (HB2.out.trans (hb3.mono HB2.out.size))
            clear hb3 hl1 hl2 hc1 hc2
            go_wp2_with fail
            refine (alive_any _).mono ?_
            rintro e w9 ⟨rfl, hb9⟩
            have HB9 := Aside0.mk (HB3.out.trans (hb9.mono HB3.out.size))
            clear hb9
            go_wp2_with fail
            go_ret
            exact ⟨rfl, HB9.out⟩
          · have HS := Aside0.mk hs
            clear hk hs ha hb
            go_enter Tryd.func9, Tryd.ntmps9
            go_wp2_with fail
            have HX : Aside0 ((W.alloc (.cells #[.string r, .string f, .string q, .int .u64 t] 24)).heap[W.heap.size]? = some (.cells #[.string r, .string f, .string q, .int .u64 t] 24 (0, 0))) := ⟨heap_alloc_new W _⟩
            have HB0 : Aside0 (Below W.heap.size W (W.alloc (.cells #[.string r, .string f, .string q, .int .u64 t] 24))) := ⟨below_alloc (Below.refl _ _) _⟩
            generalize W.alloc (.cells #[.string r, .string f, .string q, .int .u64 t] 24) = w0 at HX HB0 ⊢
            obtain ⟨g, hg⟩ : ∃ g, W.heap.size = g := ⟨_, rfl⟩
            have HG := Aside0.mk hg
            rw [hg] at HX ⊢
            clear hg
            refine (bulwarklaw04_Light.calls r f q t true _ HL.out).mono ?_
            rintro e w1 ⟨rfl, hb1⟩
            have HX1 := Aside0.mk (blk_below HX.out hb1)
            have HB1 := Aside0.mk (HB0.out.trans (hb1.mono HB0.out.size))
            clear hb1
            have c0 : w1.cell? ⟨g, 0, none⟩ = some (.string r) := (blk_cell HX1.out 0).trans rfl
            have c1 : w1.cell? ⟨g, 1, none⟩ = some (.string f) := (blk_cell HX1.out 1).trans rfl
            have c2 : w1.cell? ⟨g, 2, none⟩ = some (.string q) := (blk_cell HX1.out 2).trans rfl
            have c3 : w1.cell? ⟨g, 3, none⟩ = some (.int .u64 t) := (blk_cell HX1.out 3).trans rfl
            go_wp2_with fail
            refine (bytes_bad r f q t _ HK.out).mono ?_
            rintro e w2 ⟨v, rfl, hr, hb2⟩
            have HB2 := Aside0.mk (HB1.out.trans (hb2.mono HB1.out.size))
            have HR2 := Aside0.mk hr
            clear hb2 hr c0 c1 c2 c3
            obtain ⟨Ab, nb, eb⟩ := Kd.R_slice HR2.out
            subst eb
            go_wp2_with fail
            refine (rows_bad a b _ HS.out).mono ?_
            rintro e w3 ⟨rfl, hb3⟩
            have HB3 := Aside0.mk (HB2.out.trans (hb3.mono HB2.out.size))
            clear hb3
            go_wp2_with fail
            refine (alive_any _).mono ?_
            rintro e w9 ⟨rfl, hb9⟩
            have HB9 := Aside0.mk (HB3.out.trans (hb9.mono HB3.out.size))
            clear hb9
            go_wp2_with fail
            go_ret
            exact ⟨rfl, HB9.out⟩
      · have hb' : 100 < b.size := by omega
        have da : decide ((100 : Int) < (a.size : Int)) = false := df (by omega)
        have da' : decide (100 < a.size) = false := df (by omega)
        have db : decide ((100 : Int) < (b.size : Int)) = true := dt (by omega)
        have db' : decide (100 < b.size) = true := dt (by omega)
        clear ha hb hb'
        go_enter Tryd.func9, Tryd.ntmps9
        go_wp2_with fail
        have HX : Aside0 ((W.alloc (.cells #[.string r, .string f, .string q, .int .u64 t] 24)).heap[W.heap.size]? = some (.cells #[.string r, .string f, .string q, .int .u64 t] 24 (0, 0))) := ⟨heap_alloc_new W _⟩
        have HB0 : Aside0 (Below W.heap.size W (W.alloc (.cells #[.string r, .string f, .string q, .int .u64 t] 24))) := ⟨below_alloc (Below.refl _ _) _⟩
        generalize W.alloc (.cells #[.string r, .string f, .string q, .int .u64 t] 24) = w0 at HX HB0 ⊢
        obtain ⟨g, hg⟩ : ∃ g, W.heap.size = g := ⟨_, rfl⟩
        have HG := Aside0.mk hg
        rw [hg] at HX ⊢
        clear hg
        refine (bulwarklaw04_Light.calls r f q t true _ HL.out).mono ?_
        rintro e w1 ⟨rfl, hb1⟩
        have HX1 := Aside0.mk (blk_below HX.out hb1)
        have HB1 := Aside0.mk (HB0.out.trans (hb1.mono HB0.out.size))
        clear hb1
        go_wp2_with fail
        refine (alive_any _).mono ?_
        rintro e w9 ⟨rfl, hb9⟩
        have HB9 := Aside0.mk (HB1.out.trans (hb9.mono HB1.out.size))
        clear hb9
        go_wp2_with fail
        go_ret
        exact ⟨rfl, HB9.out⟩
    · have ha' : 100 < a.size := by omega
      have da : decide ((100 : Int) < (a.size : Int)) = true := dt (by omega)
      have da' : decide (100 < a.size) = true := dt (by omega)
      clear ha ha'
      go_enter Tryd.func9, Tryd.ntmps9
      go_wp2_with fail
      have HX : Aside0 ((W.alloc (.cells #[.string r, .string f, .string q, .int .u64 t] 24)).heap[W.heap.size]? = some (.cells #[.string r, .string f, .string q, .int .u64 t] 24 (0, 0))) := ⟨heap_alloc_new W _⟩
      have HB0 : Aside0 (Below W.heap.size W (W.alloc (.cells #[.string r, .string f, .string q, .int .u64 t] 24))) := ⟨below_alloc (Below.refl _ _) _⟩
      generalize W.alloc (.cells #[.string r, .string f, .string q, .int .u64 t] 24) = w0 at HX HB0 ⊢
      obtain ⟨g, hg⟩ : ∃ g, W.heap.size = g := ⟨_, rfl⟩
      have HG := Aside0.mk hg
      rw [hg] at HX ⊢
      clear hg
      refine (bulwarklaw04_Light.calls r f q t true _ HL.out).mono ?_
      rintro e w1 ⟨rfl, hb1⟩
      have HX1 := Aside0.mk (blk_below HX.out hb1)
      have HB1 := Aside0.mk (HB0.out.trans (hb1.mono HB0.out.size))
      clear hb1
      go_wp2_with fail
      refine (alive_any _).mono ?_
      rintro e w9 ⟨rfl, hb9⟩
      have HB9 := Aside0.mk (HB1.out.trans (hb9.mono HB1.out.size))
      clear hb9
      go_wp2_with fail
      go_ret
      exact ⟨rfl, HB9.out⟩
end Go.Proofs.YtfdnpnaacikgdaaDoor.PCell
