/- light, Own and Back: what each answers of a slice that reads as a list of parts. -/
import Derived.Test.YtoemddjolfblbaaC
import Derived.Deep.RegionHeld3
set_option linter.unusedVariables false
set_option linter.unusedSimpArgs false
namespace Go.Proofs.Ytoemddjolfblbaa
open Go.RowKit Go.Proofs.YtoemddjolfblbaaW.PrintWords

theorem dt {p : Prop} [Decidable p] (h : p) : decide p = true := decide_eq_true h
theorem df {p : Prop} [Decidable p] (h : ¬ p) : decide p = false := decide_eq_false h

/-- All of a table's places from 0 to its end are so. -/
def allB (l : List Part) (ok : Nat → Bool) : Bool := (List.range l.length).all ok
theorem allB_yes {l : List Part} {ok : Nat → Bool} (h : ∀ k, k < l.length → ok k = true) : allB l ok = true := by simpa [allB] using h
theorem allB_no {l : List Part} {ok : Nat → Bool} {k : Nat} (hk : k < l.length) (h : ok k = false) : allB l ok = false := by
  unfold allB
  rw [List.all_eq_false]
  exact ⟨k, by simpa using hk, by simp [h]⟩

def shortB (p : Part) : Bool := decide (p.from_.size ≤ 200) && decide (p.to_.size ≤ 200)
def lightB (l : List Part) : Bool := decide (l.length ≤ 100) && allB l (fun k => shortB (pat l k))

set_option maxHeartbeats 1000000 in
theorem light_any (A : Option Addr) (c : Nat) (l : List Part) (w : World) (hr : Kd.C kP w A l.length l) :
    Calls Try.prog 9 #[.slice A l.length c] w fun e w' => e = .returned (.bool (lightB l)) ∧ w = w' := by
  have HR := Aside0.mk hr
  clear hr
  by_cases hl : l.length ≤ 100
  · have d1 : decide ((100 : Int) < (l.length : Int)) = false := df (by omega)
    go_enter Try.func9, Try.ntmps9
    go_wp2
    go_loop [3] (fun vi => ∃ i : Nat, i ≤ l.length ∧ vi = .int .i64 i ∧ Aside0 (∀ k, k < i → shortB (pat l k) = true)) (fun vi => l.length - (intOf vi).toNat)
    case atStart => exact ⟨0, by omega, rfl, ⟨fun k hk => absurd hk (by omega)⟩⟩
    case round =>
      obtain ⟨i, hi, rfl, HS⟩ := hrel
      by_cases hlt : i < l.length
      · have h3 : (i : Int) < l.length := by omega
        obtain ⟨ad, rfl, hbl, c0, c1, c2⟩ := kP_at HR.out i hlt
        by_cases h1 : (pat l i).from_.size ≤ 200
        · by_cases h2 : (pat l i).to_.size ≤ 200
          · go_wp2_with fail
            go_round
            case rel => exact ⟨i + 1, by omega, by go_num, ⟨fun k hk => by
              rcases Nat.lt_or_ge k i with h | h
              · exact HS.out k h
              · obtain rfl : k = i := by omega
                simp [shortB, h1, h2]⟩⟩
            case measure => simp [intOf]; omega
          · go_wp2_with fail
            go_ret
            exact ⟨ret_bool (by unfold lightB; rw [allB_no hlt (by simp [shortB, h2])]; simp), rfl⟩
        · go_wp2_with fail
          go_ret
          exact ⟨ret_bool (by unfold lightB; rw [allB_no hlt (by simp [shortB, h1])]; simp), rfl⟩
      · obtain rfl : i = l.length := by omega
        go_wp2_with fail
        go_ret
        exact ⟨ret_bool (by unfold lightB; rw [allB_yes HS.out]; simp [hl]), rfl⟩
  · have d1 : decide ((100 : Int) < (l.length : Int)) = true := dt (by omega)
    go_enter Try.func9, Try.ntmps9
    go_wp2
    go_ret
    exact ⟨ret_bool (by simp [lightB, hl]), rfl⟩

theorem info27 : (Try.prog.info? 27).map (fun i => (i.zero, i.size, i.bytes)) = some (some (.agg #[(.string ⟨#[]⟩), (.string ⟨#[]⟩), (.int .u64 0)]), 3, 40) := by kernel_rfl
theorem info32 : (Try.prog.info? 32).map (fun i => (i.zero, i.size, i.bytes)) = some (some (.agg #[(.string ⟨#[]⟩), (.string ⟨#[]⟩), (.int .u64 0)]), 3, 40) := by kernel_rfl

theorem pat_take {l : List Part} {i : Nat} (h : i < l.length) : l.take i ++ [pat l i] = l.take (i + 1) := by
  rw [List.take_succ_eq_append_getElem h]
  simp [pat, List.getD_eq_getElem?_getD, List.getElem?_eq_getElem h]

set_option maxHeartbeats 2000000 in
set_option maxRecDepth 100000 in
theorem own_any (A : Option Addr) (c : Nat) (l : List Part) (w : World) (hr : Kd.C kP w A l.length l) (hl : l.length ≤ 1000) :
    Calls Try.prog 12 #[.slice A l.length c] w fun e w' => ∃ v, e = .returned v ∧ Kd.R kP 27 w' w.heap.size (fun _ => True) v l ∧ Below w.heap.size w w' := by
  have HR := Aside0.mk hr
  clear hr
  go_enter Try.func12, Try.ntmps12
  go_wp2
  go_loopw [3, 4] (fun v vi w' => ∃ i : Nat, i ≤ l.length ∧ vi = .int .i64 i ∧ Aside0 (Kd.R kP 27 w' w.heap.size (fun _ => True) v (l.take i)) ∧ Aside0 (Below w.heap.size w w')) (fun _ vi _ => l.length - (intOf vi).toNat)
  case atStart => exact ⟨0, by omega, rfl, ⟨Kd.R_nil _ _ _ _ _⟩, ⟨Below.refl _ _⟩⟩
  case round =>
    obtain ⟨i, hi, rfl, HO, HB⟩ := hrel
    by_cases hlt : i < l.length
    · have h3 : (i : Int) < l.length := by omega
      obtain ⟨ad, rfl, HH⟩ := kP_hold HR.out i hlt
      obtain ⟨c0, c1, c2⟩ := HH.out _ HB.out
      have hA := World.block_lt_of_cell? wr _ c0
      go_wp2_with fail
      go_region_held3 (fun w' => w'.cell? (ad.add (i * 3)) = some (.string (pat l i).from_) ∧ w'.cell? ⟨(ad.add (i * 3)).block, (ad.add (i * 3)).off + 1, none⟩ = some (.string (pat l i).to_) ∧ w'.cell? ⟨(ad.add (i * 3)).block, (ad.add (i * 3)).off + 2, none⟩ = some (.int .u64 (pat l i).group))
        (first | go_keep | exact HH.out _ hb)
        ((refine Kd.R_append_step kP (w0 := w) w.heap.size (by rfl) (.tmp 11) (.tmp 28) 30 27 (.agg #[(.string ⟨#[]⟩), (.string ⟨#[]⟩), (.int .u64 0)]) 40 rfl Try.underlying30 info27 rfl (by decide) (by omega) u3 (l.take i) (pat l i) _ (fun _ => True) (fun _ => False) rfl rfl (kP_mkM _ _ _ (pat l i)) (fun _ hk => hk.elim) (fun _ _ => trivial) (Kd.R_drew HO.out) (below_drew1 HB.out) HB.out.size ?aL ?_; (case aL => simp; omega); intro v1 w1 ho hb hg hat))
      rw [pat_take hlt] at ho
      have HO1 := Aside0.mk ho
      have HB1 := Aside0.mk hb
      clear ho hb hg hat
      go_wp2_with fail
      go_roundw
      case rel => exact ⟨i + 1, by omega, by go_num, HO1, HB1⟩
      case measure => simp [intOf]; omega
    · obtain rfl : i = l.length := by omega
      have ho := HO.out
      rw [List.take_length] at ho
      have HO1 := Aside0.mk ho
      clear ho HO
      go_wp2_with fail
      go_ret
      exact ⟨_, rfl, HO1.out, HB.out⟩

set_option maxHeartbeats 2000000 in
set_option maxRecDepth 100000 in
theorem back_any (A : Option Addr) (c : Nat) (l : List Part) (w : World) (hr : Kd.C kP w A l.length l) (hl : l.length ≤ 1000) :
    Calls Try.prog 19 #[.slice A l.length c] w fun e w' => ∃ v, e = .returned v ∧ Kd.R kP 32 w' w.heap.size (fun _ => True) v l ∧ Below w.heap.size w w' := by
  have HR := Aside0.mk hr
  clear hr
  go_enter Try.func19, Try.ntmps19
  go_wp2
  go_loopw [3, 4] (fun v vi w' => ∃ i : Nat, i ≤ l.length ∧ vi = .int .i64 i ∧ Aside0 (Kd.R kP 32 w' w.heap.size (fun _ => True) v (l.take i)) ∧ Aside0 (Below w.heap.size w w')) (fun _ vi _ => l.length - (intOf vi).toNat)
  case atStart => exact ⟨0, by omega, rfl, ⟨Kd.R_nil _ _ _ _ _⟩, ⟨Below.refl _ _⟩⟩
  case round =>
    obtain ⟨i, hi, rfl, HO, HB⟩ := hrel
    by_cases hlt : i < l.length
    · have h3 : (i : Int) < l.length := by omega
      obtain ⟨ad, rfl, HH⟩ := kP_hold HR.out i hlt
      obtain ⟨c0, c1, c2⟩ := HH.out _ HB.out
      have hA := World.block_lt_of_cell? wr _ c0
      go_wp2_with fail
      go_region_held3 (fun w' => w'.cell? (ad.add (i * 3)) = some (.string (pat l i).from_) ∧ w'.cell? ⟨(ad.add (i * 3)).block, (ad.add (i * 3)).off + 1, none⟩ = some (.string (pat l i).to_) ∧ w'.cell? ⟨(ad.add (i * 3)).block, (ad.add (i * 3)).off + 2, none⟩ = some (.int .u64 (pat l i).group))
        (first | go_keep | exact HH.out _ hb)
        ((refine Kd.R_append_step kP (w0 := w) w.heap.size (by rfl) (.tmp 11) (.tmp 28) 22 32 (.agg #[(.string ⟨#[]⟩), (.string ⟨#[]⟩), (.int .u64 0)]) 40 rfl Try.underlying22 info32 rfl (by decide) (by omega) u3 (l.take i) (pat l i) _ (fun _ => True) (fun _ => False) rfl rfl (kP_mkM _ _ _ (pat l i)) (fun _ hk => hk.elim) (fun _ _ => trivial) (Kd.R_drew HO.out) (below_drew1 HB.out) HB.out.size ?aL ?_; (case aL => simp; omega); intro v1 w1 ho hb hg hat))
      rw [pat_take hlt] at ho
      have HO1 := Aside0.mk ho
      have HB1 := Aside0.mk hb
      clear ho hb hg hat
      go_wp2_with fail
      go_roundw
      case rel => exact ⟨i + 1, by omega, by go_num, HO1, HB1⟩
      case measure => simp [intOf]; omega
    · obtain rfl : i = l.length := by omega
      have ho := HO.out
      rw [List.take_length] at ho
      have HO1 := Aside0.mk ho
      clear ho HO
      go_wp2_with fail
      go_ret
      exact ⟨_, rfl, HO1.out, HB.out⟩
end Go.Proofs.Ytoemddjolfblbaa
