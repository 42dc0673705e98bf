/- Cell: the reference's cut of a text off the front of bytes. -/
import Derived.Test.YtfdnpnaacikgdaaDoorS
/- cut. -/
set_option linter.unusedVariables false
set_option linter.unusedSimpArgs false
namespace Go.Proofs.YtfdnpnaacikgdaaDoor
open Go.RowKit Go.Proofs.YtfdnpnaacikgdaaDoorW.PrintWords

/-- What a text off the front leaves. -/
def CutPost (w0 w : World) (o : Option (List UInt8 × List UInt8)) (e : Ending) (w' : World) : Prop :=
  match o with
  | some (s, r) => ∃ (A : Option Addr) (c : Nat), e = .returned (.tuple #[.string (strOfNums (nums s)), .slice A r.length c, .bool true]) ∧ Kd.C kB w0 A r.length (nums r) ∧ r.length ≤ c ∧ Below w.heap.size w w'
  | none => e = .returned (.tuple #[.string ⟨#[]⟩, .slice none 0 0, .bool false]) ∧ Below w.heap.size w w'
theorem CutPost.bad {w0 w w' : World} {o : Option (List UInt8 × List UInt8)} (h : o = none) (hb : Below w.heap.size w w') : CutPost w0 w o (.returned (.tuple #[.string ⟨#[]⟩, .slice none 0 0, .bool false])) w' := by
  subst h
  exact ⟨rfl, hb⟩
theorem CutPost.good {w0 w w' : World} {o : Option (List UInt8 × List UInt8)} {s r : List UInt8} {A : Option Addr} {m c : Nat} (h : o = some (s, r)) (hm : m = r.length) (hc : Kd.C kB w0 A r.length (nums r)) (hl : r.length ≤ c) (hb : Below w.heap.size w w') :
    CutPost w0 w o (.returned (.tuple #[.string (strOfNums (nums s)), .slice A m c, .bool true])) w' := by
  subst h hm
  exact ⟨A, c, rfl, hc, hl, hb⟩
set_option maxHeartbeats 4000000 in
set_option maxRecDepth 100000 in
theorem cut_any (A : Option Addr) (n c : Nat) (bs : List UInt8) (w0 w : World) (hB0 : Below w0.heap.size w0 w) (hn : bs.length = n) (hc : n ≤ c) (hl : n ≤ 100000) (hr : Kd.C kB w0 A n (nums bs)) :
    Calls Tryd.prog 35 #[.slice A n c] w (CutPost w0 w (unesc bs)) := by
  have HR0 := Aside0.mk hr
  have HR := Aside0.mk (Kd.C_below hr hB0)
  have HN := Aside0.mk hn
  clear hr hn hB0
  obtain ⟨i5, hi5, hs5⟩ := info5r
  go_enter Tryd.func35, Tryd.ntmps35
  go_wp2_with fail
  go_loopw [5, 6] (fun v2 v5 w' => ∃ (i : Nat) (acc : List UInt8), i ≤ n ∧ v5 = .int .i64 i ∧ Aside0 (acc.length ≤ i) ∧ Aside0 (Kd.R kB 5 w' w.heap.size (fun _ => True) v2 (nums acc)) ∧ Aside0 (Below w.heap.size w w') ∧ Aside0 (unesc bs = unAt bs i acc)) (fun _ v5 _ => n - (intOf v5).toNat)
  case atStart => exact ⟨0, [], by omega, rfl, ⟨by simp⟩, ⟨Kd.R_nil _ _ _ _ _⟩, ⟨Below.refl _ _⟩, ⟨(unAt_zero bs).symm⟩⟩
  case round =>
    obtain ⟨i, acc, hi, rfl, HL, HV, HB, HU⟩ := hrel
    by_cases hlt : i < n
    · obtain ⟨ad, rfl, c0⟩ := byteAt (Kd.C_below HR.out HB.out) i (by rw [HN.out]; exact hlt)
      have h4 : (i : Int) < n := by omega
      have h5 : (0 : Int) ≤ (i : Int) := by omega
      obtain ⟨b, hb⟩ : ∃ b, bs.getD i 0 = b := ⟨_, rfl⟩
      rw [hb] at c0
      have HBb := Aside0.mk hb
      clear hb
      obtain ⟨A2, c2, e2⟩ := Kd.R_slice HV.out
      subst e2
      by_cases hz : b = 0
      · subst hz
        have t0 : (((0 : UInt8).toNat : Int) != 0) = false := rfl
        have e0 : ((0 : UInt8).toNat : Int) = 0 := rfl
        rw [e0] at c0 t0
        clear e0
        by_cases hlast : i + 1 = n
        · have t1 : ((i : Int) == (n : Int) - 1) = true := beq_iff_eq.2 (by omega)
          have HX : Aside0 (unesc bs = none) := ⟨by rw [HU.out]; exact unAt_last (by rw [HN.out]; exact hlast) HBb.out⟩
          clear hlast
          go_wp2_with fail
          go_ret3
          exact CutPost.bad HX.out HB.out
        · have hlt2 : i + 1 < n := by omega
          have t1 : ((i : Int) == (n : Int) - 1) = false := beq_eq_false_iff_ne.2 (by omega)
          obtain ⟨ad', ea, c1⟩ := byteAt (Kd.C_below HR.out HB.out) (i + 1) (by rw [HN.out]; exact hlt2)
          injection ea with ea
          subst ea
          rw [add_pos ad (i + 1) (by omega)] at c1
          have h6 : (i : Int) + 1 < n := by omega
          have h7 : (0 : Int) ≤ (i : Int) + 1 := by omega
          have h8 : ((i : Int) + 1).toNat = i + 1 := by omega
          obtain ⟨b1, hb1⟩ : ∃ b, bs.getD (i + 1) 0 = b := ⟨_, rfl⟩
          rw [hb1] at c1
          have HB1 := Aside0.mk hb1
          clear hb1 hlast
          by_cases h1 : b1 = 1
          · subst h1
            have e0 : ((1 : UInt8).toNat : Int) = 1 := rfl
            rw [e0] at c1
            clear e0
            obtain ⟨A', hcut, hA'⟩ := print_cut (P := Tryd.prog) 27 5 .i64 Tryd.underlying27 hi5 hs5 (some ad) n c (i + 2) (by omega)
            have e1 : ((i + 2 : Nat) : Int) = (i : Int) + 2 := by omega
            rw [e1] at hcut
            clear e1
            have hreads := hA' w0 .u8 (nums bs) hc (Kd.reads_of_C (d := 0) HR0.out)
            have HC := Aside0.mk (C_drop_nums hreads HN.out)
            have HX : Aside0 (unesc bs = some (acc, bs.drop (i + 2))) := ⟨by rw [HU.out]; exact unAt_one (by rw [HN.out]; exact hlt2) HBb.out HB1.out⟩
            have HLn : Aside0 (n - (i + 2) = (bs.drop (i + 2)).length) := ⟨by rw [List.length_drop, HN.out]⟩
            have HLc : Aside0 ((bs.drop (i + 2)).length ≤ c - (i + 2)) := ⟨by rw [List.length_drop, HN.out]; omega⟩
            clear hA' hreads
            have hstr := fun W (h : Below wr.heap.size wr W) => Kd.C_string (c := c2) (P := Tryd.prog) Tryd.underlying27 Tryd.underlying5 Tryd.underlying9 (Kd.C_below (R_cap HV.out).2 h)
            have hs0 := fun nq : Nat => hstr (wr.drewN nq) (pw_below_drewN (Below.refl _ _) nq)
            have hs1 := hstr _ (Below.refl _ _)
            clear hstr
            go_wp2_with fail
            go_quiet (fail)
            go_wp2_with fail
            go_ret3
            exact CutPost.good HX.out HLn.out HC.out HLc.out (pw_below_drewN HB.out _)
          · have t2 : ((b1.toNat : Int) == 1) = false := beq_eq_false_iff_ne.2 (fun e => h1 (u8_eq (k := 1) (by decide) e))
            by_cases h2 : b1 = 255
            · subst h2
              have e0 : ((255 : UInt8).toNat : Int) = 255 := rfl
              rw [e0] at c1 t2
              clear e0
              have HX : Aside0 (unesc bs = unAt bs (i + 2) (acc ++ [0])) := ⟨by rw [HU.out]; exact unAt_esc (by rw [HN.out]; exact hlt2) HBb.out HB1.out⟩
              go_wp2_with (at_builtin; refine Kd.R_append kB (w0 := w) w.heap.size rfl (.tmp 48) (.tmp 49) 27 5 (.int .u8 0) 1 rfl Tryd.underlying27 info5 rfl (by decide) (by omega) (.slice A2 (nums acc).length c2) (nums acc) 0 _ (fun _ => True) (fun _ => False) rfl rfl rfl (fun _ hk => hk.elim) (fun _ _ => trivial) HV.out HB.out HB.out.size (by have := HL.out; rw [nums_length]; omega) ?_; intro v1 w1 ho hb hg hat; have HV1 : Aside0 (Kd.R kB 5 w1 w.heap.size (fun _ => True) v1 (nums (acc ++ [0]))) := ⟨by rw [nums_append]; exact ho⟩; have HB2 := Aside0.mk hb; clear ho hb hg hat)
              go_roundw
              case rel => exact ⟨i + 2, acc ++ [0], by omega, by go_num, ⟨by have := HL.out; simp only [List.length_append, List.length_cons, List.length_nil]; omega⟩, HV1, HB2, HX⟩
              case measure => simp [intOf]; omega
            · have t3 : ((b1.toNat : Int) != 255) = true := by
                rw [bne_iff_ne]
                exact fun e => h2 (u8_eq (k := 255) (by decide) e)
              have HX : Aside0 (unesc bs = none) := ⟨by rw [HU.out]; exact unAt_bad (by rw [HN.out]; exact hlt2) HBb.out (by rw [HB1.out]; exact h1) (by rw [HB1.out]; exact h2)⟩
              go_wp2_with fail
              go_ret3
              exact CutPost.bad HX.out HB.out
      · have t0 : ((b.toNat : Int) != 0) = true := by
          rw [bne_iff_ne]
          exact fun e => hz (u8_eq (k := 0) (by decide) e)
        have HX : Aside0 (unesc bs = unAt bs (i + 1) (acc ++ [b])) := ⟨by rw [HU.out, unAt_other (by rw [HN.out]; exact hlt) (by rw [HBb.out]; exact hz), HBb.out]⟩
        go_wp2_with (at_builtin; refine Kd.R_append kB (w0 := w) w.heap.size rfl (.tmp 18) (.tmp 23) 27 5 (.int .u8 0) 1 rfl Tryd.underlying27 info5 rfl (by decide) (by omega) (.slice A2 (nums acc).length c2) (nums acc) (b.toNat : Int) _ (fun _ => True) (fun _ => False) rfl rfl rfl (fun _ hk => hk.elim) (fun _ _ => trivial) HV.out HB.out HB.out.size (by have := HL.out; rw [nums_length]; omega) ?_; intro v1 w1 ho hb hg hat; have HV1 : Aside0 (Kd.R kB 5 w1 w.heap.size (fun _ => True) v1 (nums (acc ++ [b]))) := ⟨by rw [nums_append]; exact ho⟩; have HB2 := Aside0.mk hb; clear ho hb hg hat)
        go_roundw
        case rel => exact ⟨i + 1, acc ++ [b], by omega, by go_num, ⟨by have := HL.out; simp only [List.length_append, List.length_cons, List.length_nil]; omega⟩, HV1, HB2, HX⟩
        case measure => simp [intOf]; omega
    · obtain rfl : i = n := by omega
      have HX : Aside0 (unesc bs = none) := ⟨by rw [HU.out]; exact unAt_end (by rw [HN.out]; exact Nat.le_refl _)⟩
      go_wp2_with fail
      go_ret3
      exact CutPost.bad HX.out HB.out
end Go.Proofs.YtfdnpnaacikgdaaDoor
