/- Slots: the law of marks. -/
import Derived.Test.YtfjfggnbkopocaaBn
/- SlotsMarks. -/
set_option linter.unusedVariables false
set_option linter.unusedSimpArgs false
namespace Go.Proofs.Ytfjfggnbkopocaa
open Go.RowKit Go.Proofs.YtfjfggnbkopocaaW.PrintWords PSlotsTwo
attribute [local go_sem] ptr

theorem op_at {w : World} {A : Option Addr} {l : List S33} (h : Kd.C k33 w A l.length l) (i : Nat) (hi : i < l.length) : ∃ ad A3 c3, A = some ad ∧
    Aside0 (∀ w', Below w.heap.size w w' → w'.cell? (ad.add (i * 4)) = some (.int .i64 l[i].f0) ∧ w'.cell? ⟨(ad.add (i * 4)).block, (ad.add (i * 4)).off + 1, none⟩ = some (.int .u64 l[i].f1) ∧ w'.cell? ⟨(ad.add (i * 4)).block, (ad.add (i * 4)).off + 2, none⟩ = some (.int .u64 l[i].f2) ∧ w'.cell? ⟨(ad.add (i * 4)).block, (ad.add (i * 4)).off + 3, none⟩ = some (.slice A3 l[i].f3.length c3)) ∧
    Aside0 (l[i].f3.length ≤ c3) ∧ Aside0 (kB.C w A3 l[i].f3.length l[i].f3) := by
  obtain ⟨ad, A3, c3, e, h0, h1, h2, h3, h4, h5⟩ := at_T33 h (i : Int) (by omega) (by omega)
  have e1 : rd_T33 l (i : Int) = l[i] := by
    unfold rd_T33
    rw [Int.toNat_natCast, List.getD_eq_getElem?_getD, List.getElem?_eq_getElem hi]
    rfl
  rw [e1] at h0 h1 h2 h3 h4 h5
  rw [Int.toNat_natCast] at h0 h1 h2 h3
  exact ⟨ad, A3, c3, e, ⟨fun w' hb => ⟨fr_ret hb h0, fr_ret hb h1, fr_ret hb h2, fr_ret hb h3⟩⟩, ⟨h4⟩, ⟨h5⟩⟩
theorem take_runM (f : Int) (l : List S33) (i : Nat) (hi : i < l.length) : runM f (l.take (i + 1)) = (stepM f (runM f (l.take i)) (opO l[i])).2 := by
  rw [List.take_add_one, List.getElem?_eq_getElem hi]
  exact runM_snoc f _ _
set_option maxHeartbeats 16000000 in
set_option maxRecDepth 100000 in
theorem marks_any (f : Int) (A : Option Addr) (c : Nat) (l : List S33) (w : World) (hr : Kd.C k33 w A l.length l) (hc : l.length ≤ c) (hok : ∀ x ∈ l, opOk x) :
    Calls Try.prog 6 #[.int .i64 f, .slice A l.length c] w fun e w' => e = .returned (.bool true) ∧ Below w.heap.size w w' := by
  have HC := Aside0.mk hr
  have HOK := Aside0.mk hok
  have HCc := Aside0.mk hc
  clear hr hc hok
  by_cases hf : 1 ≤ f ∧ f ≤ 4
  · have HF := Aside0.mk hf
    clear hf
    cases hlb : lightB 60 l with
    | false =>
      go_enter Try.func6, Try.ntmps6
      go_wp2_with fail
      refine (New_ok HF.out.1 HF.out.2 w).mono ?_
      rintro e w1 ⟨rfl, hL, hb⟩
      have HB1 := Aside0.mk hb
      clear hL hb
      go_wp2_with fail
      refine (light_any A c l w1 (Kd.C_below HC.out HB1.out) HCc.out).mono ?_
      rintro e w2 ⟨rfl, n, rfl⟩
      rw [hlb]
      go_wp2_with fail
      refine (alive_any _).mono ?_
      rintro e w3 ⟨rfl, hb⟩
      have HB2 := Aside0.mk (below_to (pw_below_drewN HB1.out n) (Nat.le_refl _) hb)
      clear hb
      go_wp2_with fail
      go_ret
      exact ⟨rfl, HB2.out⟩
    | true =>
      have HLB := Aside0.mk hlb
      go_enter Try.func6, Try.ntmps6
      go_wp2_with fail
      refine (New_ok HF.out.1 HF.out.2 w).mono ?_
      rintro e w1 ⟨rfl, hL, hb⟩
      have HS1 := Aside0.mk (newSt hL hb)
      clear hL hb
      obtain ⟨lg, hlg⟩ : ∃ lg, w.heap.size + 1 = lg := ⟨_, rfl⟩
      obtain ⟨m, hm⟩ : ∃ m, w.heap.size = m := ⟨_, rfl⟩
      rw [hlg, hm] at HS1
      rw [hlg]
      clear hlg hm
      go_wp2_with fail
      refine (light_any A c l w1 (Kd.C_below HC.out HS1.out.below) HCc.out).mono ?_
      rintro e w2 ⟨rfl, n, rfl⟩
      rw [hlb]
      clear hlb
      go_wp2_with fail
      have hl60 : l.length ≤ 60 := by
        have := HLB.out
        unfold lightB at this
        simp only [Bool.and_eq_true, decide_eq_true_eq] at this
        exact this.1
      go_loopw [7] (fun v7 w' => ∃ i : Nat, i ≤ l.length ∧ v7 = .int .i64 i ∧ Aside0 (St w w' lg m f (runM f (l.take i)))) (fun v7 _ => l.length - (RowKit.intOf v7).toNat)
      case atStart => exact ⟨0, by omega, rfl, ⟨HS1.out.keep (pw_below_drewN (Below.refl _ _) n)⟩⟩
      case round =>
        obtain ⟨i, hi, rfl, HS⟩ := hrel
        by_cases hlt : i < l.length
        · have h3 : (i : Int) < l.length := by omega
          have HI : Aside0 (Inv f (runM f (l.take i))) := ⟨run_inv HF.out.1 HLB.out HOK.out i hi⟩
          have HI2 : Aside0 (Inv f (runM f (l.take (i + 1)))) := ⟨run_inv HF.out.1 HLB.out HOK.out (i + 1) (by omega)⟩
          have HTK := Aside0.mk (take_runM f l i hlt)
          obtain ⟨ad, A3, c3, eA, HOP, HC3, HB3⟩ := op_at HC.out i hlt
          subst eA
          have HX := Aside0.mk (HOK.out l[i] (List.getElem_mem hlt))
          have HXo := Aside0.mk (okO_of HLB.out (List.getElem_mem hlt) HX.out)
          have HE : ∃ x, Aside0 (l[i] = x) := ⟨_, ⟨rfl⟩⟩
          obtain ⟨x, HE⟩ := HE
          have hE := HE.out
          rw [hE] at HOP HC3 HB3 HX HXo HTK
          clear hE
          obtain ⟨M, hM⟩ : ∃ M, runM f (l.take i) = M := ⟨_, rfl⟩
          obtain ⟨M', hM'⟩ : ∃ M, runM f (l.take (i + 1)) = M := ⟨_, rfl⟩
          rw [hM'] at HI2
          rw [hM] at HS HI
          rw [hM, hM'] at HTK
          have HM' := Aside0.mk hM'
          clear hM hM'
          have hq := okQ_of (u64_of HX.out.2.2.1).1 (u64_of HX.out.2.2.1).2
          have HQ := Aside0.mk hq
          clear hq
          obtain ⟨o0, o1, o2, o3⟩ := HOP.out wr HS.out.below
          go_wp2_with fail
          refine (lowM_any HS.out).mono ?_
          rintro e w3 ⟨rfl, rfl⟩
          go_wp2_with fail
          refine (viewM_any HS.out).mono ?_
          rintro e w4 ⟨rfl, rfl⟩
          go_wp2_with fail
          refine (Best_any HS.out HI.out.ok HQ.out).mono ?_
          rintro e w5 ⟨v5, rfl, _, hb⟩
          have HS5 := Aside0.mk (HS.out.keep hb)
          have HO5 := Aside0.mk (HOP.out w5 HS5.out.below)
          obtain ⟨p0, p1, p2, p3⟩ := HO5.out
          clear o0 o1 o2 o3 hb
          go_wp2_with fail
          refine (one_any HS5.out HI.out.ok HF.out.1 HF.out.2 (opO x) HXo.out.1 A3 c3 HC3.out HB3.out).mono ?_
          rintro e w6 ⟨rfl, hS6⟩
          rw [← HTK.out] at hS6
          have HS6 := Aside0.mk hS6
          have mk := marks_step (f := f) (M := M) (o := opO x)
          rw [← HTK.out] at mk
          have d1 : decide (M'.low < M.low) = false := df (by omega)
          have d2 : decide (M'.view < M.view) = false := df (by omega)
          clear hS6 mk p0 p1 p2 p3
          go_wp2_with fail
          refine (lowM_any HS6.out).mono ?_
          rintro e w7 ⟨rfl, rfl⟩
          go_wp2_with fail
          refine (viewM_any HS6.out).mono ?_
          rintro e w8 ⟨rfl, rfl⟩
          go_wp2_with fail
          refine (certsM_any HS6.out HI2.out.ok).mono ?_
          rintro e w9 ⟨v9, rfl, r, hp, _, hr9, hb⟩
          have hle : (certsOf M'.L r).length ≤ 8 := by
            have h1 := List.length_filterMap_le (certQ M'.L) r
            have h2 := hp.length_eq
            have h3 := okM_len HI2.out.ok
            rw [List.length_map] at h2
            unfold certsOf
            omega
          obtain ⟨N, hN⟩ : ∃ N, (certsOf M'.L r).length = N := ⟨_, rfl⟩
          obtain ⟨A9, c9, e9⟩ := Kd.R_slice hr9
          rw [hN] at e9 hle
          subst e9
          have d3 : decide ((N : Int) > 8) = false := df (by omega)
          have HS9 := Aside0.mk (HS6.out.keep hb)
          obtain ⟨p0, p1, p2, p3⟩ := HOP.out w9 HS9.out.below
          clear hp hr9 hb hle hN d1 d2
          go_wp2_with fail
          refine (Best_any HS9.out HI2.out.ok HQ.out).mono ?_
          rintro e w10 ⟨v10, rfl, _, hb⟩
          have HS10 := Aside0.mk (HS9.out.keep hb)
          have HB : Aside0 ((bestV M x.f2).isSome = true → x.f2 > M'.low → (bestV M' x.f2).isSome = true ∧ ¬ bestView (bestV M' x.f2) < bestView (bestV M x.f2)) := ⟨by
            intro h1 h2
            cases h5 : bestV M x.f2 with
            | none => rw [h5] at h1; cases h1
            | some c =>
              obtain ⟨c', h6, h7⟩ := best_step (f := f) (o := opO x) h5 (by rw [← HTK.out]; exact h2)
              rw [← HTK.out] at h6
              rw [h6]
              refine ⟨rfl, ?_⟩
              show ¬ c'.view < c.view
              rcases h7 with rfl | h7 <;> omega⟩
          obtain ⟨b1, hb1⟩ : ∃ b, (bestV M x.f2).isSome = b := ⟨_, rfl⟩
          obtain ⟨b2, hb2⟩ : ∃ b, (bestV M' x.f2).isSome = b := ⟨_, rfl⟩
          obtain ⟨u1, hu1⟩ : ∃ b, bestView (bestV M x.f2) = b := ⟨_, rfl⟩
          obtain ⟨u2, hu2⟩ : ∃ b, bestView (bestV M' x.f2) = b := ⟨_, rfl⟩
          rw [hb1, hb2, hu1, hu2] at HB
          simp only [hb1, hb2, hu1, hu2]
          clear hb1 hb2 hu1 hu2 hb p0 p1 p2 p3 d3
          go_wp2_with fail
          go_cut [114] (fun v114 wx => Aside0 (v114 = .bool false ∧ St w wx lg m f M'))
          case first =>
            obtain ⟨p0, p1, p2, p3⟩ := HOP.out w10 HS10.out.below
            have d2 := bl_cell p2
            have HLw : ∀ j : Bl w10, Calls Try.prog 16 #[.pointer (some ⟨lg, 0, none⟩)] j.1 fun r w' => r = .returned (.int .u64 M'.low) ∧ ∃ k : Bl w10, w' = k.1 := fun j => bl_call ((lowM_any (HS10.out.keep j.2)).mono (fun _ _ ⟨a1, a2⟩ => ⟨a1, by rw [a2]; exact Below.refl _ _⟩))
            clear p0 p1 p2 p3
            have fin : ∀ w2 : World, Below w10.heap.size w10 w2 → Aside0 (Value.bool false = .bool false ∧ St w w2 lg m f M') := fun w2 hb => ⟨rfl, HS10.out.keep hb⟩
            cases b1 with
            | false =>
              refine wp_region_bl (by kernel_rfl) (by kernel_rfl) ?_
              repeat (go_big_quiet_step (exact HLw _))
              refine wpQuiet_nil ?_
              rintro w11 ⟨⟨w11', hb1⟩, rfl⟩
              go_wp2_with fail
              go_meet
              exact ⟨⟨rfl, (fin _ hb1).out.2⟩⟩
            | true =>
              by_cases hg : x.f2 > M'.low
              · obtain ⟨h1, h2⟩ := HB.out rfl hg
                subst h1
                have e1 : decide (x.f2 > M'.low) = true := dt hg
                have e2 : decide (u2 < u1) = false := df (by omega)
                clear hg h2
                refine wp_region_bl (by kernel_rfl) (by kernel_rfl) ?_
                repeat (go_big_quiet_step (exact HLw _))
                refine wpQuiet_nil ?_
                rintro w11 ⟨⟨w11', hb1⟩, rfl⟩
                go_wp2_with fail
                go_meet
                exact ⟨⟨rfl, (fin _ hb1).out.2⟩⟩
              · have e1 : decide (x.f2 > M'.low) = false := df hg
                clear hg
                refine wp_region_bl (by kernel_rfl) (by kernel_rfl) ?_
                repeat (go_big_quiet_step (exact HLw _))
                refine wpQuiet_nil ?_
                rintro w11 ⟨⟨w11', hb1⟩, rfl⟩
                go_wp2_with fail
                go_meet
                exact ⟨⟨rfl, (fin _ hb1).out.2⟩⟩
          case rest =>
            obtain ⟨rfl, hSc⟩ := hcut.out
            have HSc := Aside0.mk hSc
            clear hSc
            go_wp2_with fail
            have HMlo : Aside0 (0 ≤ M'.low ∧ M'.low ≤ 4611686018427387895) := ⟨HI2.out.ok.low, HI2.out.high⟩
            go_loopw [16] (fun v16 w' => ∃ d : Nat, d ≤ 4 ∧ v16 = .int .u64 d ∧ Aside0 (St w w' lg m f M')) (fun v16 _ => 4 - (RowKit.intOf v16).toNat)
            case atStart => exact ⟨0, by omega, rfl, HSc⟩
            case round =>
              obtain ⟨d, hd, rfl, HSd⟩ := hrel
              have hlo := HMlo.out
              by_cases h5 : (d : Int) ≤ M'.low
              · have e1 : decide ((d : Int) ≤ M'.low) = true := dt h5
                by_cases h6 : d ≤ 3
                · have e2 : decide ((d : Int) ≤ 3) = true := dt (by omega)
                  have eW : IntKind.u64.wrap (M'.low - (d : Int)) = M'.low - d := Ytfjfggnbkopocaa.u64 (by omega)
                  have hg := none_of HI2.out (q := M'.low - d) (.inl (by omega))
                  have hsum : sumV M' (M'.low - d) = none := by unfold sumV; rw [hg]; rfl
                  have hprep : preparedV f M' (M'.low - d) = false := by unfold preparedV; rw [hg]
                  have HSU := Aside0.mk (And.intro hsum hprep)
                  clear hg hsum hprep
                  go_wp2_with fail
                  refine (lowM_any HSd.out).mono ?_
                  rintro e w11 ⟨rfl, rfl⟩
                  go_wp2_with fail
                  refine (lowM_any HSd.out).mono ?_
                  rintro e w12 ⟨rfl, rfl⟩
                  go_wp2_with fail
                  refine (Sum_any HSd.out HI2.out.ok (okQ_of (q := M'.low - d) (by omega) (by omega))).mono ?_
                  rintro e w13 ⟨v13, rfl, _, hb⟩
                  have HS13 := Aside0.mk (HSd.out.keep hb)
                  rw [HSU.out.1]
                  clear hb
                  go_wp2_with fail
                  refine (lowM_any HS13.out).mono ?_
                  rintro e w14 ⟨rfl, rfl⟩
                  go_wp2_with fail
                  refine (Prepared_any HS13.out HF.out.1 HF.out.2 (okQ_of (q := M'.low - d) (by omega) (by omega))).mono ?_
                  rintro e w15 ⟨rfl, hb⟩
                  have HS15 := Aside0.mk (HS13.out.keep hb)
                  rw [HSU.out.2]
                  clear hb
                  go_wp2_with fail
                  go_roundw
                  case rel => exact ⟨d + 1, by omega, by go_num, HS15⟩
                  case measure => simp [RowKit.intOf]; omega
                · have e2 : decide ((d : Int) ≤ 3) = false := df (by omega)
                  clear h6
                  go_wp2_with fail
                  refine (lowM_any HSd.out).mono ?_
                  rintro e w11 ⟨rfl, rfl⟩
                  go_wp2_with fail
                  refine (lowM_any HSd.out).mono ?_
                  rintro e w12 ⟨rfl, rfl⟩
                  have q9 : IntKind.u64.wrap (M'.low + 8) = M'.low + 8 := Ytfjfggnbkopocaa.u64 (by omega)
                  have q10 : IntKind.u64.wrap (M'.low + 8 + 1) = M'.low + 8 + 1 := Ytfjfggnbkopocaa.u64 (by omega)
                  have hg := none_of HI2.out (q := M'.low + 8 + 1) (.inr (by omega))
                  have hsum : sumV M' (M'.low + 8 + 1) = none := by unfold sumV; rw [hg]; rfl
                  have hbest : bestV M' (M'.low + 8 + 1) = none := by unfold bestV; rw [hg]; rfl
                  have HSU := Aside0.mk (And.intro hsum hbest)
                  clear hg hsum hbest
                  go_wp2_with fail
                  refine (Sum_any HSd.out HI2.out.ok (okQ_of (q := M'.low + 8 + 1) (by omega) (by omega))).mono ?_
                  rintro e w13 ⟨v13, rfl, _, hb⟩
                  have HS13 := Aside0.mk (HSd.out.keep hb)
                  rw [HSU.out.1]
                  clear hb
                  go_wp2_with fail
                  refine (lowM_any HS13.out).mono ?_
                  rintro e w14 ⟨rfl, rfl⟩
                  go_wp2_with fail
                  refine (Best_any HS13.out HI2.out.ok (okQ_of (q := M'.low + 8 + 1) (by omega) (by omega))).mono ?_
                  rintro e w15 ⟨v15, rfl, _, hb⟩
                  have HS15 := Aside0.mk (HS13.out.keep hb)
                  rw [HSU.out.2]
                  clear hb q9 q10
                  go_wp2_with fail
                  go_roundw
                  case rel => exact ⟨i + 1, by omega, by go_num, ⟨by rw [HM'.out]; exact HS15.out⟩⟩
                  case measure => simp [RowKit.intOf]; omega

              · have e1 : decide ((d : Int) ≤ M'.low) = false := df h5
                go_wp2_with fail
                refine (lowM_any HSd.out).mono ?_
                rintro e w11 ⟨rfl, rfl⟩
                go_wp2_with fail
                refine (lowM_any HSd.out).mono ?_
                rintro e w12 ⟨rfl, rfl⟩
                have q9 : IntKind.u64.wrap (M'.low + 8) = M'.low + 8 := Ytfjfggnbkopocaa.u64 (by omega)
                have q10 : IntKind.u64.wrap (M'.low + 8 + 1) = M'.low + 8 + 1 := Ytfjfggnbkopocaa.u64 (by omega)
                have hg := none_of HI2.out (q := M'.low + 8 + 1) (.inr (by omega))
                have hsum : sumV M' (M'.low + 8 + 1) = none := by unfold sumV; rw [hg]; rfl
                have hbest : bestV M' (M'.low + 8 + 1) = none := by unfold bestV; rw [hg]; rfl
                have HSU := Aside0.mk (And.intro hsum hbest)
                clear hg hsum hbest
                go_wp2_with fail
                refine (Sum_any HSd.out HI2.out.ok (okQ_of (q := M'.low + 8 + 1) (by omega) (by omega))).mono ?_
                rintro e w13 ⟨v13, rfl, _, hb⟩
                have HS13 := Aside0.mk (HSd.out.keep hb)
                rw [HSU.out.1]
                clear hb
                go_wp2_with fail
                refine (lowM_any HS13.out).mono ?_
                rintro e w14 ⟨rfl, rfl⟩
                go_wp2_with fail
                refine (Best_any HS13.out HI2.out.ok (okQ_of (q := M'.low + 8 + 1) (by omega) (by omega))).mono ?_
                rintro e w15 ⟨v15, rfl, _, hb⟩
                have HS15 := Aside0.mk (HS13.out.keep hb)
                rw [HSU.out.2]
                clear hb q9 q10
                go_wp2_with fail
                go_roundw
                case rel => exact ⟨i + 1, by omega, by go_num, ⟨by rw [HM'.out]; exact HS15.out⟩⟩
                case measure => simp [RowKit.intOf]; omega
        · have h3 : ¬ ((i : Int) < l.length) := by omega
          clear hlt
          go_wp2_with fail
          refine (alive_any _).mono ?_
          rintro e w3 ⟨rfl, hb⟩
          have HB2 := Aside0.mk (below_to HS.out.below (Nat.le_refl _) hb)
          clear hb
          go_wp2_with fail
          go_ret
          exact ⟨rfl, HB2.out⟩
  · go_enter Try.func6, Try.ntmps6
    go_wp2_with fail
    refine (New_bad hf w).mono ?_
    rintro e w1 ⟨rfl, hb⟩
    have HB1 := Aside0.mk hb
    clear hb hf
    go_wp2_with fail
    refine (light_any A c l w1 (Kd.C_below HC.out HB1.out) HCc.out).mono ?_
    rintro e w2 ⟨rfl, n, rfl⟩
    cases lightB 60 l
    all_goals (
      go_wp2_with fail
      refine (alive_any _).mono ?_
      rintro e w3 ⟨rfl, hb⟩
      have HB2 := Aside0.mk (below_to (pw_below_drewN HB1.out n) (Nat.le_refl _) hb)
      clear hb
      go_wp2_with fail
      go_ret
      exact ⟨rfl, HB2.out⟩)
theorem slotsMarks_law (f : Int) (A : Option Addr) (c : Nat) (l : List S33) (w : World) (_ : (Lit.int .i64 f).wf = true) (hr : Kd.C k33 w A l.length l) (hc : l.length ≤ c) (hok : ∀ x ∈ l, opOk x) :
    Calls Try.prog 6 #[.int .i64 f, .slice A l.length c] w fun e w' => e = .returned (.bool true) ∧ Below w.heap.size w w' := marks_any f A c l w hr hc hok
end Go.Proofs.Ytfjfggnbkopocaa
