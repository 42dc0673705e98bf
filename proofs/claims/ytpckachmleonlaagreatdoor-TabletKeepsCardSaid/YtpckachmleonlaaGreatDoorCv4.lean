/- Words and walks for Split and Tablet: texts of these sessions, and of the kit's print, cut down to what is used (A). -/
import Derived.Test.YtpckachmleonlaaGreatDoorCv3
import Derived.ScopeJumps
import Derived.WalkSpells
import Derived.WalkLawsBesides
import Derived.Lib.Hide
import Derived.StillTailTactics
import Derived.IntWalk
import Derived.Lib.BytesEntry
import Derived.Laws.Externs
import Derived.WalkMore
section
set_option linter.unusedVariables false
set_option linter.unusedSimpArgs false
namespace Go.Proofs.YtpckachmleonlaaGreatDoor
open Go.RowKit Go.Proofs.YtpckachmleonlaaGreatDoorW.PrintWords
theorem dt {p : Prop} [Decidable p] (h : p) : decide p = true := decide_eq_true h
theorem df {p : Prop} [Decidable p] (h : ¬ p) : decide p = false := decide_eq_false h
abbrev kB : Kd Int := Kd.int .u8
theorem info5 : (Tryz.prog.info? 5).map (fun i => (i.zero, i.size, i.bytes)) = some (some (.int .u8 0), 1, 1) := by kernel_rfl
set_option maxHeartbeats 1000000 in
theorem cloneB_any (A : Option Addr) (c : Nat) (l : List Int) (w : World) (hr : Kd.C kB w A l.length l) (hc : l.length ≤ c) (hl : l.length ≤ 1000000) :
    Calls Tryz.prog 87 #[.slice A l.length c] w fun e w' => ∃ v, e = .returned v ∧ Kd.R kB 5 w' w.heap.size (fun _ => True) v l ∧ Below w.heap.size w w' := by
  have HR := zAa.mk hr
  cases A with
  | none =>
    have h0 : l = [] := by
      rcases Nat.eq_zero_or_pos l.length with h | h
      · exact List.eq_nil_of_length_eq_zero h
      · obtain ⟨ad, e, _⟩ := hr.2.2 h
        cases e
    subst h0
    have hq := fun w => Lib.run_eql_slice_nil (P := Tryz.prog) w 47 5 none 0 c 0 0 Tryz.underlying47
    clear hr
    go_enter Tryz.func87, Tryz.ntmps87
    go_wp2
    go_ret
    exact ⟨_, rfl, Kd.R_nil _ _ _ _ _, Below.refl _ _⟩
  | some ad =>
    have hq := fun w => Lib.run_eql_slice_nil (P := Tryz.prog) w 47 5 (some ad) l.length c 0 0 Tryz.underlying47
    clear hr
    have HO : zAa (kB.R 5 (w.alloc (.cells #[] 5)) w.heap.size (fun _ => True) (.slice (some ⟨w.heap.size, 0, none⟩) 0 0) []) := ⟨Kd.R_of_own (World.ownsRow_made w #[] 0 (Nat.le_refl _) (by unfold maxLen; omega) rfl) (fun _ _ => trivial)⟩
    have HC : zAa (zD (kB.K w) kB.sz (w.alloc (.cells #[] 5)) (some ad) l.length l) := ⟨zD.imp_ HR.out ((Below.refl _ _).alloc (Nat.le_refl _) _) (fun _ _ h => h)⟩
    go_enter Tryz.func87, Tryz.ntmps87
    go_wp2_with (at_builtin; refine Kd.zDf kB (w0 := w) w.heap.size rfl (.tmp 5) (.tmp 6) 47 5 (.int .u8 0) 1 rfl Tryz.underlying47 info5 rfl (by decide) (by omega) (.slice (some ⟨w.heap.size, 0, none⟩) 0 0) [] l (some ad) l.length c (fun _ => True) (fun _ => False) rfl rfl HO.out HC.out (fun x cs h => h) (fun _ hk => hk.elim) (fun _ _ => trivial) ((Below.refl _ _).alloc (Nat.le_refl _) _) (by simp) (by simp; omega) ?_; intro v1 w1 ho hb _ _)
    go_ret
    exact ⟨_, rfl, ho, hb⟩
def uvarL : Nat → Nat → List Int
  | 0, n => [(n : Int)]
  | k + 1, n => if n < 128 then [(n : Int)] else ((n % 128 + 128 : Nat) : Int) :: uvarL k (n / 128)
def uvar (n : Nat) : List Int := uvarL 10 n
theorem uvarL_len : ∀ k n, (uvarL k n).length ≤ k + 1
  | 0, n => by simp [uvarL]
  | k + 1, n => by
    rw [uvarL]
    split
    · simp
    · have := uvarL_len k (n / 128)
      rw [List.length_cons]
      omega
theorem uvar_len (n : Nat) : (uvar n).length ≤ 11 := uvarL_len 10 n
set_option maxRecDepth 100000 in
theorem or128 : ∀ x : Fin 256, Go.bits .or .u8 ((x.val : Nat) : Int) 128 = ((x.val % 128 + 128 : Nat) : Int) := by decide
theorem or128' (m : Nat) : Go.bits .or .u8 ((m : Int) % 256) 128 = ((m % 128 + 128 : Nat) : Int) := by
  have h := or128 ⟨m % 256, by omega⟩
  have e : ((m : Int) % 256) = ((m % 256 : Nat) : Int) := by omega
  rw [e, h]
  simp only []
  have : m % 256 % 128 = m % 128 := by omega
  rw [this]
structure UvAt (w W : World) (v : Value) (acc : List Int) (k m : Nat) (l : List Int) (n : Nat) : Prop where
  row : Kd.R kB 5 W w.heap.size (fun _ => True) v acc
  below : Below w.heap.size w W
  eq : acc ++ uvarL k m = l ++ uvar n
  few : acc.length + k ≤ 900010
  lt : m < 128 ^ (k + 1)
theorem UvAt.last {w W : World} {v : Value} {acc : List Int} {k m : Nat} {l : List Int} {n : Nat} (h : UvAt w W v acc k m l n) (hm : m < 128) : acc ++ [(m : Int)] = l ++ uvar n := by
  rw [← h.eq]
  cases k with
  | zero => rfl
  | succ k => rw [uvarL, if_pos hm]
theorem UvAt.more {w W W' : World} {v v' : Value} {acc : List Int} {k m : Nat} {l : List Int} {n : Nat} (h : UvAt w W v acc k m l n) (hm : ¬ m < 128) (hr : Kd.R kB 5 W' w.heap.size (fun _ => True) v' (acc ++ [((m % 128 + 128 : Nat) : Int)])) (hb : Below w.heap.size w W') : ∃ k', UvAt w W' v' (acc ++ [((m % 128 + 128 : Nat) : Int)]) k' (m / 128) l n := by
  obtain ⟨h1, h2, h3, h4, h5⟩ := h
  cases k with
  | zero => simp at h5; omega
  | succ k =>
    refine ⟨k, hr, hb, ?_, ?_, ?_⟩
    · rw [← h3, uvarL, if_neg hm, List.append_assoc]
      rfl
    · rw [List.length_append]
      simp only [List.length_cons, List.length_nil]
      omega
    · rw [Nat.pow_succ] at h5
      exact Nat.div_lt_of_lt_mul (by rw [Nat.mul_comm]; exact h5)
set_option maxHeartbeats 1000000 in
set_option maxRecDepth 100000 in
theorem uint_any (A : Option Addr) (c : Nat) (l : List Int) (n : Nat) (w : World) (hr : Kd.C kB w A l.length l) (hc : l.length ≤ c) (hl : l.length ≤ 900000) (hn : n < 18446744073709551616) :
    Calls Tryz.prog 100 #[.slice A l.length c, .int .u64 n] w fun e w' => ∃ v, e = .returned v ∧ Kd.R kB 5 w' w.heap.size (fun _ => True) v (l ++ uvar n) ∧ Below w.heap.size w w' := by
  have HR := zAa.mk hr
  have HN := zAa.mk hn
  have HL := zAa.mk hl
  clear hr hn hl
  go_enter Tryz.func100, Tryz.ntmps100
  go_wp2_with fail
  refine wp_scope_jumps 0 (fun a' w' => ∃ (m : Nat) (v0 u6 u7 u8 u9 u10 u11 u12 u13 u14 u15 u16 u17 u18 u19 u20 u21 u22 : Value), a' = { tmps := #[v0, .int .u64 m, undef, undef, .slice none 0 0, .slice A l.length c, u6, u7, u8, u9, u10, u11, u12, u13, u14, u15, u16, u17, u18, u19, u20, u21, u22], defers := [] } ∧ ∃ (k : Nat) (acc : List Int), zAa (UvAt w w' v0 acc k m l n) ∧ m < 18446744073709551616) (fun a' _ => (intOf (a'.tmps.getD 1 undef)).toNat) rfl ?_ ?_
  · go_wp2_with fail
    refine (cloneB_any A c l _ HR.out hc (by have := HL.out; omega)).mono ?_
    rintro e w1 ⟨v, rfl, hr, hb⟩
    have HU : zAa (UvAt w w1 v l 10 n l n) := ⟨⟨hr, hb, rfl, by have := HL.out; omega, by have := HN.out; exact Nat.lt_of_lt_of_le this (by decide)⟩⟩
    have hm64 := HN.out
    clear hr hb
    obtain ⟨A1, c1, e1⟩ := Kd.zAk HU.out.row
    subst e1
    by_cases hm : n < 128
    · have t1 : ((n : Int) / 128 == 0) = true := beq_iff_eq.2 (by omega)
      have HX := zAa.mk (HU.out.last hm)
      have e2 : (n : Int) % 256 = (n : Int) := by omega
      have HE := zAa.mk e2
      clear hm e2
      go_wp2_with fail
      go_step3
      go_wp2_with (at_builtin; rw [HE.out]; refine Kd.zEf kB (w0 := w) w.heap.size rfl (.tmp 10) (.tmp 13) 47 5 (.int .u8 0) 1 rfl Tryz.underlying47 info5 rfl (by decide) (by omega) (.slice A1 l.length c1) l (n : Int) _ (fun _ => True) (fun _ => False) rfl rfl rfl (fun _ hk => hk.elim) (fun _ _ => trivial) HU.out.row HU.out.below HU.out.below.size (by have := HU.out.few; omega) ?_; intro v1 w2 ho hb hg hat; have HV := zAa.mk ho; have HB := zAa.mk hb; clear ho hb hg hat)
      simp only [Exit.jump]
      go_ret
      exact ⟨_, rfl, HX.out ▸ HV.out, HB.out⟩
    · have t1 : ((n : Int) / 128 == 0) = false := beq_eq_false_iff_ne.2 (by omega)
      have HM := zAa.mk hm
      clear hm
      go_wp2_with fail
      go_step3
      go_wp2_with (at_builtin; rw [or128' n]; refine Kd.zEf kB (w0 := w) w.heap.size rfl (.tmp 15) (.tmp 19) 47 5 (.int .u8 0) 1 rfl Tryz.underlying47 info5 rfl (by decide) (by omega) (.slice A1 l.length c1) l ((n % 128 + 128 : Nat) : Int) _ (fun _ => True) (fun _ => False) rfl rfl rfl (fun _ hk => hk.elim) (fun _ _ => trivial) HU.out.row HU.out.below HU.out.below.size (by have := HU.out.few; omega) ?_; intro v1 w2 ho hb hg hat; have HV := zAa.mk ho; have HB := zAa.mk hb; clear ho hb hg hat)
      go_step3
      have HM' := HM.out
      have e3 : (n : Int) / 128 = ((n / 128 : Nat) : Int) := by omega
      rw [e3]
      obtain ⟨k', HU'⟩ := HU.out.more HM.out HV.out HB.out
      replace HU' := zAa.mk HU'
      exact ⟨rfl, ⟨_, _, _, _, _, _, _, _, _, _, _, _, _, _, _, _, _, _, _, rfl, k', _, HU', by omega⟩⟩
  · rintro a' w' ⟨m, v0, u6, u7, u8, u9, u10, u11, u12, u13, u14, u15, u16, u17, u18, u19, u20, u21, u22, rfl, k, acc, HU, hm64⟩
    obtain ⟨A1, c1, e1⟩ := Kd.zAk HU.out.row
    subst e1
    by_cases hm : m < 128
    · have t1 : ((m : Int) / 128 == 0) = true := beq_iff_eq.2 (by omega)
      have HX := zAa.mk (HU.out.last hm)
      have e2 : (m : Int) % 256 = (m : Int) := by omega
      have HE := zAa.mk e2
      clear hm e2
      go_wp2_with (at_builtin; rw [HE.out]; refine Kd.zEf kB (w0 := w) w.heap.size rfl (.tmp 10) (.tmp 13) 47 5 (.int .u8 0) 1 rfl Tryz.underlying47 info5 rfl (by decide) (by omega) (.slice A1 acc.length c1) acc (m : Int) _ (fun _ => True) (fun _ => False) rfl rfl rfl (fun _ hk => hk.elim) (fun _ _ => trivial) HU.out.row HU.out.below HU.out.below.size (by have := HU.out.few; omega) ?_; intro v1 w2 ho hb hg hat; have HV := zAa.mk ho; have HB := zAa.mk hb; clear ho hb hg hat)
      simp only [Exit.jump]
      go_ret
      exact ⟨_, rfl, HX.out ▸ HV.out, HB.out⟩
    · have t1 : ((m : Int) / 128 == 0) = false := beq_eq_false_iff_ne.2 (by omega)
      have HM := zAa.mk hm
      clear hm
      go_wp2_with (at_builtin; rw [or128' m]; refine Kd.zEf kB (w0 := w) w.heap.size rfl (.tmp 15) (.tmp 19) 47 5 (.int .u8 0) 1 rfl Tryz.underlying47 info5 rfl (by decide) (by omega) (.slice A1 acc.length c1) acc ((m % 128 + 128 : Nat) : Int) _ (fun _ => True) (fun _ => False) rfl rfl rfl (fun _ hk => hk.elim) (fun _ _ => trivial) HU.out.row HU.out.below HU.out.below.size (by have := HU.out.few; omega) ?_; intro v1 w2 ho hb hg hat; have HV := zAa.mk ho; have HB := zAa.mk hb; clear ho hb hg hat)
      go_step3
      have HM' := HM.out
      have e3 : (m : Int) / 128 = ((m / 128 : Nat) : Int) := by omega
      rw [e3]
      obtain ⟨k', HU'⟩ := HU.out.more HM.out HV.out HB.out
      replace HU' := zAa.mk HU'
      exact ⟨rfl, ⟨_, _, _, _, _, _, _, _, _, _, _, _, _, _, _, _, _, _, _, rfl, k', _, HU', by omega⟩, by simp [intOf]; omega⟩
set_option maxHeartbeats 1000000 in
set_option maxRecDepth 100000 in
theorem bytes_any (A : Option Addr) (c : Nat) (l : List Int) (B : Option Addr) (d : Nat) (x : List Int) (w : World) (hr : Kd.C kB w A l.length l) (hc : l.length ≤ c) (hl : l.length ≤ 400000) (hx : Kd.C kB w B x.length x) (hd : x.length ≤ d) (hm : x.length ≤ 400000) :
    Calls Tryz.prog 101 #[.slice A l.length c, .slice B x.length d] w fun e w' => ∃ v, e = .returned v ∧ Kd.R kB 5 w' w.heap.size (fun _ => True) v (l ++ uvar x.length ++ x) ∧ Below w.heap.size w w' := by
  have HR := zAa.mk hr
  have HL := zAa.mk hl
  have HX := zAa.mk hx
  have hU : (uvar x.length).length ≤ 11 := uvar_len _
  have HU := zAa.mk hU
  clear hr hl hx hU
  go_enter Tryz.func101, Tryz.ntmps101
  go_wp2_with fail
  refine (uint_any A c l x.length w HR.out hc (by have := HL.out; omega) (by omega)).mono ?_
  rintro e w1 ⟨v, rfl, hr, hb⟩
  obtain ⟨y, hy⟩ : ∃ y, l ++ uvar x.length = y := ⟨_, rfl⟩
  have HYL : zAa (y.length ≤ 500000) := ⟨by have := HL.out; have := HU.out; rw [← hy, List.length_append]; omega⟩
  rw [hy] at hr
  have HY := zAa.mk hy
  clear hy
  have HV := zAa.mk hr
  have HB := zAa.mk hb
  clear hr hb
  obtain ⟨A1, c1, e1⟩ := Kd.zAk HV.out
  subst e1
  have HC : zAa (Kd.C kB w1 B x.length x) := ⟨Kd.zBb HX.out HB.out⟩
  go_wp2_with (at_builtin; refine Kd.zDf kB (w0 := w) w.heap.size rfl (.tmp 9) (.tmp 10) 47 5 (.int .u8 0) 1 rfl Tryz.underlying47 info5 rfl (by decide) (by omega) (.slice A1 y.length c1) y x B x.length d (fun _ => True) (fun _ => False) rfl rfl HV.out HC.out (fun x cs h => h) (fun _ hk => hk.elim) (fun _ _ => trivial) HB.out HB.out.size (by have := HYL.out; omega) ?_; intro v1 w2 ho hb _ _; have HV2 := zAa.mk ho; have HB2 := zAa.mk hb; clear ho hb)
  go_ret
  exact ⟨_, rfl, HY.out ▸ HV2.out, HB2.out⟩
end Go.Proofs.YtpckachmleonlaaGreatDoor
end
