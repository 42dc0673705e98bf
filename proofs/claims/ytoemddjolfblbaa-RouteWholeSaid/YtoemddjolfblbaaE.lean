/- Same of the reference: what it answers of two slices of parts. -/
import Derived.Test.YtoemddjolfblbaaD
import Derived.Test.YtoemddjolfblbaaWEqStruct
set_option linter.unusedVariables false
set_option linter.unusedSimpArgs false
namespace Go.Proofs.Ytoemddjolfblbaa
open Go.RowKit Go.Proofs.YtoemddjolfblbaaW.PrintWords

theorem eqA32 (d : Nat) (w : World) (x0 y0 : ByteArray) (x1 y1 : ByteArray) (x2 y2 : Int) :
    (Op.equalIn (d + 2) 32 (.agg #[.string x0, .string x1, .int .u64 x2]) (.agg #[.string y0, .string y1, .int .u64 y2])).run Try.prog w = .ok (x0.toList == y0.toList && (x1.toList == y1.toList && (x2 == y2))) w := by
  refine eqA_of Try.underlying32 (by kernel_rfl) ?_
  refine eqf_cons (by rfl) (by go_simp; rfl) (by go_simp; rfl) (by go_simp) ?_
  refine eqf_cons (by rfl) (by go_simp; rfl) (by go_simp; rfl) (by go_simp) ?_
  exact eqf_last (by rfl) (by go_simp; rfl) (by go_simp; rfl) (by go_simp)
theorem eqA27 (d : Nat) (w : World) (x0 y0 : ByteArray) (x1 y1 : ByteArray) (x2 y2 : Int) :
    (Op.equalIn (d + 2) 27 (.agg #[.string x0, .string x1, .int .u64 x2]) (.agg #[.string y0, .string y1, .int .u64 y2])).run Try.prog w = .ok (x0.toList == y0.toList && (x1.toList == y1.toList && (x2 == y2))) w := by
  refine eqA_of Try.underlying27 (by kernel_rfl) ?_
  refine eqf_cons (by rfl) (by go_simp; rfl) (by go_simp; rfl) (by go_simp) ?_
  refine eqf_cons (by rfl) (by go_simp; rfl) (by go_simp; rfl) (by go_simp) ?_
  exact eqf_last (by rfl) (by go_simp; rfl) (by go_simp; rfl) (by go_simp)

def partEq (p q : Part) : Bool := p.from_.toList == q.from_.toList && (p.to_.toList == q.to_.toList && (p.group == q.group))
def sameB (l m : List Part) : Bool := decide (l.length = m.length) && allB l (fun k => partEq (pat l k) (pat m k))

theorem sameB_no {l m : List Part} {k : Nat} (hk : k < l.length) (h : partEq (pat l k) (pat m k) = false) : sameB l m = false := by
  unfold sameB
  rw [allB_no hk h]
  simp
set_option maxHeartbeats 1000000 in
theorem same_any (A A' : Option Addr) (c c' : Nat) (l m : List Part) (w : World) (hr : Kd.C kP w A l.length l) (hr' : Kd.C kP w A' m.length m) (hb : l.length ≤ 1000000) :
    Calls Try.prog 18 #[.slice A l.length c, .slice A' m.length c'] w fun e w' => e = .returned (.bool (sameB l m)) ∧ Drawn0 w w' := by
  have HR := Aside0.mk hr
  have HR' := Aside0.mk hr'
  clear hr hr'
  by_cases hl : l.length = m.length
  · have d1 : ((l.length : Int) != (m.length : Int)) = false := ieq' (by omega)
    have hL := Aside0.mk hl
    clear hl
    go_enter Try.func18, Try.ntmps18
    go_wp2
    go_loopw [5] (fun vi w' => ∃ i : Nat, i ≤ l.length ∧ vi = .int .i64 i ∧ Aside0 (∀ k, k < i → partEq (pat l k) (pat m k) = true) ∧ Drawn0 w w') (fun vi _ => l.length - (intOf vi).toNat)
    case atStart => exact ⟨0, by omega, rfl, ⟨fun k hk => absurd hk (by omega)⟩, Drawn0.refl _⟩
    case round =>
      obtain ⟨i, hi, rfl, HS, HD⟩ := hrel
      by_cases hlt : i < l.length
      · have h3 : (i : Int) < l.length := by omega
        have h4 : (i : Int) < m.length := by have := hL.out; omega
        obtain ⟨ad, rfl, HH⟩ := kP_hold HR.out i hlt
        obtain ⟨ad', rfl, HH'⟩ := kP_hold HR'.out i (by have := hL.out; omega)
        obtain ⟨c0, c1, c2⟩ := HH.out _ HD.below
        obtain ⟨c0', c1', c2'⟩ := HH'.out _ HD.below
        by_cases he : partEq (pat l i) (pat m i) = true
        · have hE : ((pat l i).from_.toList == (pat m i).from_.toList && ((pat l i).to_.toList == (pat m i).to_.toList && ((pat l i).group == (pat m i).group))) = true := he
          have heq := fun w => eqA32 9998 w (pat l i).from_ (pat m i).from_ (pat l i).to_ (pat m i).to_ (pat l i).group (pat m i).group
          rw [hE] at heq
          go_wp2_with fail
          go_quiet (fail)
          go_wp2_with fail
          go_roundw
          case rel => exact ⟨i + 1, by omega, by go_num, ⟨fun k hk => by
            rcases Nat.lt_or_ge k i with h | h
            · exact HS.out k h
            · obtain rfl : k = i := by omega
              exact he⟩, HD.step _⟩
          case measure => simp [intOf]; omega
        · have he' : partEq (pat l i) (pat m i) = false := by simpa using he
          have hE : ((pat l i).from_.toList == (pat m i).from_.toList && ((pat l i).to_.toList == (pat m i).to_.toList && ((pat l i).group == (pat m i).group))) = false := he'
          have heq := fun w => eqA32 9998 w (pat l i).from_ (pat m i).from_ (pat l i).to_ (pat m i).to_ (pat l i).group (pat m i).group
          rw [hE] at heq
          go_wp2_with fail
          go_quiet (fail)
          go_wp2_with fail
          go_ret
          exact ⟨ret_bool (sameB_no hlt he').symm, HD.step _⟩
      · obtain rfl : i = l.length := by omega
        go_wp2_with fail
        go_ret
        exact ⟨ret_bool (by unfold sameB; rw [allB_yes HS.out]; simp [hL.out]), HD⟩
  · have d1 : ((l.length : Int) != (m.length : Int)) = true := ine' (by omega)
    go_enter Try.func18, Try.ntmps18
    go_wp2
    go_ret
    exact ⟨ret_bool (by simp [sameB, hl]), Drawn0.refl _⟩
end Go.Proofs.Ytoemddjolfblbaa
