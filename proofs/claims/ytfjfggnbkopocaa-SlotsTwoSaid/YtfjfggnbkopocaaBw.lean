/- Slots: the law of two logs. -/
import Derived.Test.YtfjfggnbkopocaaBv
/- SlotsTwo. -/
set_option linter.unusedVariables false
set_option linter.unusedSimpArgs false
namespace Go.Proofs.Ytfjfggnbkopocaa
open Go.RowKit Go.Proofs.YtfjfggnbkopocaaW.PrintWords PSlotsTwo
attribute [local go_sem] ptr

set_option maxHeartbeats 64000000 in
set_option maxRecDepth 100000 in
theorem two_any (f : Int) (A1 : Option Addr) (c1 : Nat) (l1 : List S33) (A2 : Option Addr) (c2 : Nat) (l2 : List S33) (A3 : Option Addr) (c3 : Nat) (F : List Int) (w : World) (hr1 : Kd.C k33 w A1 l1.length l1) (hc1 : l1.length ≤ c1) (hok1 : ∀ x ∈ l1, opOk x) (hr2 : Kd.C k33 w A2 l2.length l2) (hc2 : l2.length ≤ c2) (hok2 : ∀ x ∈ l2, opOk x) (hr3 : kU.C w A3 F.length F) :
    Calls Try.prog 3 #[.int .i64 f, .slice A1 l1.length c1, .slice A2 l2.length c2, .slice A3 F.length c3] w fun e w' => e = .returned (.bool true) ∧ Below w.heap.size w w' := by
  have HC1 := Aside0.mk hr1
  have HC2 := Aside0.mk hr2
  have HC3w := Aside0.mk hr3
  have HK1 := Aside0.mk hok1
  have HK2 := Aside0.mk hok2
  have HL1 := Aside0.mk hc1
  have HL2 := Aside0.mk hc2
  clear hr1 hr2 hr3 hok1 hok2 hc1 hc2
  cases hb1 : lightB 60 l1 with
  | false =>
    go_enter Try.func3, Try.ntmps3
    go_wp2_with fail
    refine (light_any A1 c1 l1 w HC1.out HL1.out).mono ?_
    rintro e w1 ⟨rfl, n1, rfl⟩
    rw [hb1]
    go_wp2_with fail
    refine (alive_any _).mono ?_
    rintro e wz ⟨rfl, hb⟩
    have HBz := Aside0.mk (below_to (pw_below_drewN (Below.refl w.heap.size w) n1) (Nat.le_refl _) hb)
    clear hb
    go_wp2_with fail
    go_ret
    exact ⟨rfl, HBz.out⟩
  | true =>
    have HLb1 := Aside0.mk hb1
    cases hb2 : lightB 60 l2 with
    | false =>
      go_enter Try.func3, Try.ntmps3
      go_wp2_with fail
      refine (light_any A1 c1 l1 w HC1.out HL1.out).mono ?_
      rintro e w1 ⟨rfl, n1, rfl⟩
      rw [hb1]
      go_wp2_with fail
      refine (light_any A2 c2 l2 _ (Kd.C_below HC2.out (pw_below_drewN (Below.refl _ _) n1)) HL2.out).mono ?_
      rintro e w2 ⟨rfl, n2, rfl⟩
      rw [hb2]
      go_wp2_with fail
      refine (alive_any _).mono ?_
      rintro e wz ⟨rfl, hb⟩
      have HBz := Aside0.mk (below_to (pw_below_drewN (Below.refl w.heap.size w) (n1 + n2)) (Nat.le_refl _) hb)
      clear hb
      go_wp2_with fail
      go_ret
      exact ⟨rfl, HBz.out⟩
    | true =>
      have HLb2 := Aside0.mk hb2
      by_cases hbad : f < 1 ∨ f > 4 ∨ (F.length : Int) > f
      · have HBd := Aside0.mk hbad
        have fin : ∀ (x1 x2 x3 : Bool), decide (f < 1) = x1 → decide (f > 4) = x2 → decide ((F.length : Int) > f) = x3 → (x1 = true ∨ x2 = true ∨ x3 = true) → Calls Try.prog 3 #[.int .i64 f, .slice A1 l1.length c1, .slice A2 l2.length c2, .slice A3 F.length c3] w fun e w' => e = .returned (.bool true) ∧ Below w.heap.size w w' := by
          intro x1 x2 x3 e1 e2 e3 hx
          have HXx := Aside0.mk hx
          clear hx hbad
          cases x1 <;> cases x2 <;> cases x3 <;> first
            | exact absurd HXx.out (by decide)
            | (go_enter Try.func3, Try.ntmps3
               go_wp2_with fail
               refine (light_any A1 c1 l1 w HC1.out HL1.out).mono ?_
               rintro e w1 ⟨rfl, n1, rfl⟩
               rw [hb1]
               go_wp2_with fail
               refine (light_any A2 c2 l2 _ (Kd.C_below HC2.out (pw_below_drewN (Below.refl _ _) n1)) HL2.out).mono ?_
               rintro e w2 ⟨rfl, n2, rfl⟩
               rw [hb2]
               go_wp2_with fail
               refine (alive_any _).mono ?_
               rintro e wz ⟨rfl, hb⟩
               have HBz := Aside0.mk (below_to (pw_below_drewN (Below.refl w.heap.size w) (n1 + n2)) (Nat.le_refl _) hb)
               clear hb
               go_wp2_with fail
               go_ret
               exact ⟨rfl, HBz.out⟩)
        refine fin _ _ _ rfl rfl rfl ?_
        rcases hbad with h | h | h
        · exact .inl (dt h)
        · exact .inr (.inl (dt h))
        · exact .inr (.inr (dt h))
      · have HF : Aside0 (1 ≤ f ∧ f ≤ 4) := ⟨by omega⟩
        have HFl : Aside0 ((F.length : Int) ≤ f) := ⟨by omega⟩
        have e1 : decide (f < 1) = false := df (by omega)
        have e2 : decide (f > 4) = false := df (by omega)
        have e3 : decide ((F.length : Int) > f) = false := df (by omega)
        have hF4 : F.length ≤ 4 := by omega
        clear hbad
        go_enter Try.func3, Try.ntmps3
        go_wp2_with fail
        refine (light_any A1 c1 l1 w HC1.out HL1.out).mono ?_
        rintro e w1 ⟨rfl, n1, rfl⟩
        rw [hb1]
        go_wp2_with fail
        refine (light_any A2 c2 l2 _ (Kd.C_below HC2.out (pw_below_drewN (Below.refl _ _) n1)) HL2.out).mono ?_
        rintro e w2 ⟨rfl, n2, rfl⟩
        rw [hb2]
        clear hb1 hb2
        have HB0 : Aside0 (Below w.heap.size w ((w.drewN n1).drewN n2)) := ⟨pw_below_drewN (pw_below_drewN (Below.refl _ _) n1) n2⟩
        generalize (w.drewN n1).drewN n2 = W0 at HB0 ⊢
        go_wp2_with fail
        refine (New_ok HF.out.1 HF.out.2 W0).mono ?_
        rintro e w1 ⟨rfl, hLa, hba⟩
        have HLa := Aside0.mk (And.intro hLa hba)
        clear hLa hba
        go_wp2_with fail
        refine (New_ok HF.out.1 HF.out.2 w1).mono ?_
        rintro e w2 ⟨rfl, hLb, hbb⟩
        have HD := Aside0.mk (Duo.new HLa.out.1 HLa.out.2 hLb hbb)
        clear hLb hbb HLa
        obtain ⟨la, hla⟩ : ∃ x, W0.heap.size + 1 = x := ⟨_, rfl⟩
        obtain ⟨ma, hma⟩ : ∃ x, W0.heap.size = x := ⟨_, rfl⟩
        obtain ⟨lb, hlb⟩ : ∃ x, w1.heap.size + 1 = x := ⟨_, rfl⟩
        obtain ⟨mb, hmb⟩ : ∃ x, w1.heap.size = x := ⟨_, rfl⟩
        rw [hla, hlb, hma, hmb] at HD
        rw [hla, hlb]
        clear hla hlb hma hmb
        obtain ⟨ys1, hy1, hR1, hK1⟩ := reads_ops (Kd.C_below HC1.out HB0.out) HK1.out HLb1.out
        obtain ⟨ys2, hy2, hR2, hK2⟩ := reads_ops (Kd.C_below HC2.out HB0.out) HK2.out HLb2.out
        have HC3 : Aside0 (kU.C W0 A3 F.length F) := ⟨Kd.C_below HC3w.out HB0.out⟩
        have hl1 : ys1.length ≤ 60 := by
          have := HLb1.out
          unfold lightB at this
          simp only [Bool.and_eq_true, decide_eq_true_eq] at this
          omega
        have hl2 : ys2.length ≤ 60 := by
          have := HLb2.out
          unfold lightB at this
          simp only [Bool.and_eq_true, decide_eq_true_eq] at this
          omega
        rw [← hy1, ← hy2]
        have HR1 : Aside0 (kR.C w2 A1 ys1.length ys1) := ⟨Kd.C_below hR1 HD.out.below⟩
        have HR2 : Aside0 (kR.C w2 A2 ys2.length ys2) := ⟨Kd.C_below hR2 HD.out.below⟩
        have HALL0 : Aside0 (∀ e ∈ ys1 ++ ys2, okRO W0 e) := ⟨fun e he => by
          rcases List.mem_append.1 he with he | he
          · exact hK1 e he
          · exact hK2 e he⟩
        clear hy1 hy2 hR1 hR2 hK1 hK2 HC1 HC2 HK1 HK2 HL1 HL2 HLb1 HLb2 HC3w
        have HB2 : Aside0 (Below w2.heap.size w2 (w2.alloc (.cells #[] 33))) := ⟨below_alloc (Below.refl _ _) _⟩
        have HO2 : Aside0 (kR.R 33 (w2.alloc (.cells #[] 33)) 0 tr (.slice (some ⟨w2.heap.size, 0, none⟩) 0 0) []) := ⟨⟨fun _ _ => trivial, [], World.ownsRow_made w2 #[] 0 (Nat.zero_le _) (by unfold maxLen; omega) rfl, Reps.none _ _⟩⟩
        have HFr2 : Aside0 (From w2.heap.size (.slice (some ⟨w2.heap.size, 0, none⟩) 0 0)) := ⟨from_blk (Nat.le_refl _)⟩
        go_wp2_with (first
          | (at_builtin; refine Kd.R_append_rows kR (Rr := kR.K (w2.alloc (.cells #[] 33))) (w0 := W0) 0 rfl (.tmp 73) (.tmp 74) 22 33 (.agg #[.int .i64 0, .int .u64 0, .int .u64 0, .slice none 0 0]) 48 rfl Try.underlying22 info33 rfl (by decide) (by omega) (.slice (some ⟨w2.heap.size, 0, none⟩) 0 0) [] ys1 A1 ys1.length c1 tr (fun _ => False) rfl rfl HO2.out (Kd.C_below HR1.out HB2.out) (fun x cs h => kR_KM h) (fun k hk => hk.elim) (fun _ _ => trivial) ((HD.out.below.trans (HB2.out.mono HD.out.below.size)).mono (Nat.zero_le _)) (Nat.zero_le _) (by simp; omega) ?_; intro v75 w3 ho3 _ hg3 hat3
             have HB3 : Aside0 (Below w2.heap.size w2 w3) := ⟨below_grown HB2.out hg3 HB2.out.size HFr2.out⟩
             have HFr3 : Aside0 (From w2.heap.size v75) := ⟨HFr2.out.grow HB2.out.size hat3⟩
             have HO3 : Aside0 (kR.R 33 w3 0 tr v75 ys1) := ⟨by simpa using ho3⟩
             clear ho3 hg3 hat3)
          | (at_builtin; refine Kd.R_append_rows kR (Rr := kR.K w3) (w0 := W0) 0 rfl (.tmp 75) (.tmp 76) 22 33 (.agg #[.int .i64 0, .int .u64 0, .int .u64 0, .slice none 0 0]) 48 rfl Try.underlying22 info33 rfl (by decide) (by omega) v75 ys1 ys2 A2 ys2.length c2 tr (fun _ => False) rfl rfl HO3.out (Kd.C_below HR2.out HB3.out) (fun x cs h => kR_KM h) (fun k hk => hk.elim) (fun _ _ => trivial) ((HD.out.below.trans (HB3.out.mono HD.out.below.size)).mono (Nat.zero_le _)) (Nat.zero_le _) (by omega) ?_; intro v77 w4 ho4 _ hg4 hat4))
        have HB4 : Aside0 (Below w2.heap.size w2 w4) := ⟨below_grown HB3.out hg4 HB3.out.size HFr3.out⟩
        obtain ⟨A14, c14, e14⟩ := Kd.R_slice ho4
        subst e14
        obtain ⟨all, hall⟩ : ∃ l, ys1 ++ ys2 = l := ⟨_, rfl⟩
        rw [hall] at ho4 HALL0 ⊢
        have HALL := HALL0
        have hal : all.length ≤ 120 := by rw [← hall, List.length_append]; omega
        have HT0 : Aside0 (TwoAt W0 w4 la ma lb mb f F (.slice none 0 0) (.slice A14 all.length c14) all [] M0 M0) := ⟨⟨HD.out.keep HB4.out, Inv.zero f, Inv.zero f, fun q s hs => (by cases hs), fun q s hs => (by cases hs), fun a ha => (by cases ha), fun e he => (by cases he), Kd.R_nil _ _ _ _ _, kR_ok ho4 (fun k hk => hk)⟩⟩
        clear hall ho4 hg4 hat4 HB2 HO2 HFr2 HB3 HFr3 HO3 HR1 HR2 e1 e2 e3
        go_loopw [13, 15] (fun v13 v15 w' => ∃ (n : Nat) (said : List ROp) (Ma Mb : LM), n ≤ all.length ∧ said.length ≤ n ∧ v15 = .int .i64 n ∧ Aside0 (TwoAt W0 w' la ma lb mb f F v13 (.slice A14 all.length c14) all said Ma Mb)) (fun _ v15 _ => all.length - (RowKit.intOf v15).toNat)
        case atStart => exact ⟨0, [], M0, M0, by omega, by simp, rfl, HT0⟩
        case round =>
          obtain ⟨n, said, Ma, Mb, hn, hsl, rfl, HT⟩ := hrel
          have hra : n ≤ all.length := hn
          obtain ⟨A13, c13, e13⟩ := Kd.R_slice HT.out.rs
          subst e13
          by_cases hlt : n < all.length
          · have h3 : (n : Int) < all.length := by omega
            obtain ⟨ad, eA, o0, o1, o2, o3⟩ := rop_at (Kd.R_reads' HT.out.ra).2.2 n hlt
            subst eA
            have HYk : Aside0 (okRO W0 all[n]) := ⟨HALL.out _ (List.getElem_mem hlt)⟩
            have HE : ∃ y, Aside0 (all[n] = y) := ⟨_, ⟨rfl⟩⟩
            obtain ⟨y, HE⟩ := HE
            have hE := HE.out
            rw [hE] at o0 o1 o2 o3 HYk
            clear hE
            by_cases k1 : y.f0 > 2 ∨ y.f0 < 0
            · have HKk := Aside0.mk k1
              by_cases k3 : y.f0 > 2
              · have e1 : decide (y.f0 > 2) = true := dt k3
                clear k1 k3
                go_wp2_with fail
                go_roundw
                case rel => exact ⟨n + 1, said, Ma, Mb, by omega, by omega, by go_num, ⟨HT.out.keep (below_alloc (Below.refl _ _) _)⟩⟩
                case measure => simp [RowKit.intOf]; omega
              · have e1 : decide (y.f0 > 2) = false := df k3
                have e2 : decide (y.f0 < 0) = true := dt (by omega)
                clear k1 k3
                go_wp2_with fail
                go_roundw
                case rel => exact ⟨n + 1, said, Ma, Mb, by omega, by omega, by go_num, ⟨HT.out.keep (below_alloc (Below.refl _ _) _)⟩⟩
                case measure => simp [RowKit.intOf]; omega
            · have e1 : decide (y.f0 > 2) = false := df (by omega)
              have e2 : decide (y.f0 < 0) = false := df (by omega)
              clear k1
              obtain ⟨Wr, rfl⟩ : ∃ W, W = wr := ⟨_, rfl⟩
              go_wp2_with fail
              have HX1 : Aside0 ((Wr.alloc (.cells #[.int .i64 y.f0, .int .u64 y.f1, .int .u64 y.f2, .slice y.A y.sum.length y.c] 33)).heap[Wr.heap.size]? = some (.cells #[.int .i64 y.f0, .int .u64 y.f1, .int .u64 y.f2, .slice y.A y.sum.length y.c] 33 (0, 0))) := ⟨heap_alloc_new Wr _⟩
              have HB1 : Aside0 (Below Wr.heap.size Wr (Wr.alloc (.cells #[.int .i64 y.f0, .int .u64 y.f1, .int .u64 y.f2, .slice y.A y.sum.length y.c] 33))) := ⟨below_alloc (Below.refl _ _) _⟩
              have HG0 : ∃ g, Aside0 (Wr.heap.size = g) := ⟨_, ⟨rfl⟩⟩
              obtain ⟨g, HG⟩ := HG0
              have hg := HG.out
              rw [hg] at HX1 ⊢
              clear hg o0 o1 o2 o3 e1 e2
              generalize Wr.alloc (.cells #[.int .i64 y.f0, .int .u64 y.f1, .int .u64 y.f2, .slice y.A y.sum.length y.c] 33) = W1 at HX1 HB1 ⊢
              go_loopw [17, 18] (fun v17 v18 w' => ∃ x : Nat, x ≤ F.length ∧ v17 = .bool (faultyB (F.take x) y.f1) ∧ v18 = .int .i64 x ∧ Aside0 (w'.heap[g]? = some (.cells #[.int .i64 y.f0, .int .u64 y.f1, .int .u64 y.f2, .slice y.A y.sum.length y.c] 33 (0, 0))) ∧ Aside0 (Below Wr.heap.size Wr w')) (fun _ v18 _ => F.length - (RowKit.intOf v18).toNat)
              case atStart => exact ⟨0, by omega, rfl, rfl, HX1, HB1⟩
              case round =>
                obtain ⟨x, hxl, rfl, rfl, HXb, HBw⟩ := hrel
                by_cases hx : x < F.length
                · have hx3 : (x : Int) < F.length := by omega
                  have b1 : wr.cell? ⟨g, 1, none⟩ = some (.int .u64 y.f1) := (blk_cell HXb.out 1).trans rfl
                  obtain ⟨adF, eF, hcF⟩ := Kd.at_int (Kd.C_below (Kd.C_below HC3.out HT.out.duo.below) HBw.out) (x : Int) (by omega) (by omega)
                  rw [Int.toNat_natCast] at hcF
                  have HEF : Aside0 (A3 = some adF) := ⟨eF⟩
                  have eF2 := HEF.out
                  clear eF
                  rw [eF2]
                  clear eF2
                  obtain ⟨b, hb⟩ : ∃ b, faultyB (F.take x) y.f1 = b := ⟨_, rfl⟩
                  have HFT : Aside0 (faultyB (F.take (x + 1)) y.f1 = (b || (rd F (x : Int) == y.f1))) := ⟨by rw [faulty_take F y.f1 x hx, hb]⟩
                  rw [hb]
                  clear hb
                  cases b with
                  | true =>
                    go_wp2_with fail
                    go_quiet (fail)
                    go_wp2_with fail
                    go_roundw
                    case rel => exact ⟨x + 1, by omega, by rw [HFT.out]; simp, by go_num, ⟨HXb.out⟩, ⟨pw_below_drewN HBw.out nq⟩⟩
                    case measure => simp [RowKit.intOf]; omega
                  | false =>
                    by_cases hq : rd F (x : Int) = y.f1
                    · go_wp2_with fail
                      have e1 : (rd F (x : Int) == y.f1) = true := beq_iff_eq.2 hq
                      clear hq
                      go_quiet (fail)
                      go_wp2_with fail
                      go_roundw
                      case rel => exact ⟨x + 1, by omega, by rw [HFT.out]; simp [e1], by go_num, ⟨HXb.out⟩, ⟨pw_below_drewN HBw.out nq⟩⟩
                      case measure => simp [RowKit.intOf]; omega
                    · go_wp2_with fail
                      have e1 : (rd F (x : Int) == y.f1) = false := beq_eq_false_iff_ne.2 hq
                      clear hq
                      go_quiet (fail)
                      go_wp2_with fail
                      go_roundw
                      case rel => exact ⟨x + 1, by omega, by rw [HFT.out]; simp [e1], by go_num, ⟨HXb.out⟩, ⟨pw_below_drewN HBw.out nq⟩⟩
                      case measure => simp [RowKit.intOf]; omega
                · have hx3 : ¬ ((x : Int) < F.length) := by omega
                  obtain ⟨bad, hbad⟩ : ∃ b, faultyB F y.f1 = b := ⟨_, rfl⟩
                  have HBAD := Aside0.mk hbad
                  have HXF : Aside0 (x = F.length) := ⟨by omega⟩
                  rw [show F.take x = F by rw [HXF.out]; simp, hbad]
                  clear hbad hx hxl
                  obtain ⟨W2, HW2⟩ : ∃ W, Aside0 (W = wr) := ⟨_, ⟨rfl⟩⟩
                  go_wp2_with fail
                  go_loopw [19, 20] (fun v19 v20 w' => ∃ (x : Nat) (o : ROp), x ≤ said.length ∧ v20 = .int .i64 x ∧ v19 = .bool (bad || (said.take x).any (fun e => keyB e y)) ∧ Aside0 (bad = true → x = 0) ∧ Aside0 (o = look (said.take x) y) ∧ Aside0 (w'.heap[g]? = some (.cells #[.int .i64 y.f0, .int .u64 y.f1, .int .u64 y.f2, .slice o.A o.sum.length o.c] 33 (0, 0))) ∧ Aside0 (Below Wr.heap.size Wr w')) (fun _ v20 _ => said.length - (RowKit.intOf v20).toNat)
                  case atStart => exact ⟨0, y, by omega, rfl, by simp, ⟨fun _ => rfl⟩, ⟨rfl⟩, HXb, HBw⟩
                  case round =>
                    clear HXF
                    obtain ⟨x, o, hxl, rfl, rfl, HB0, HLk, HXb, HBw⟩ := hrel
                    by_cases hx : x < said.length
                    · have hx4 : (x : Int) < said.length := by omega
                      cases bad with
                      | true =>
                        rw [show (true || (said.take x).any (fun e => keyB e y)) = true by simp]
                        have HTw := Aside0.mk (HT.out.keep HBw.out)
                        have b0 : wr.cell? ⟨g, 0, none⟩ = some (.int .i64 y.f0) := (blk_cell HXb.out 0).trans rfl
                        have b1 : wr.cell? ⟨g, 1, none⟩ = some (.int .u64 y.f1) := (blk_cell HXb.out 1).trans rfl
                        have b2 : wr.cell? ⟨g, 2, none⟩ = some (.int .u64 y.f2) := (blk_cell HXb.out 2).trans rfl
                        have b3 : wr.cell? ⟨g, 3, none⟩ = some (.slice o.A o.sum.length o.c) := (blk_cell HXb.out 3).trans rfl
                        have HOk : Aside0 (okRO W0 ⟨y.f0, y.f1, y.f2, o.A, o.c, o.sum⟩) := ⟨by
                          have h1 := okRO_look (said := said.take x) HYk.out (fun e he => HT.out.ok e (List.mem_of_mem_take he))
                          rw [← HLk.out] at h1
                          exact ⟨HYk.out.f1, HYk.out.f2, h1.bytes, h1.len, h1.cap, h1.read⟩⟩
                        have HSd : Aside0 (faultyB F y.f1 = false → ∃ e ∈ said, e.f0 = y.f0 ∧ e.f1 = y.f1 ∧ e.f2 = y.f2 ∧ e.sum = o.sum) := ⟨fun hf => by
                          have h0 : (said.take x).any (fun e => keyB e y) = true := (by rw [HBAD.out] at hf; cases hf)
                          obtain ⟨e, h6, h7, h8, h9, h10⟩ := said_of h0
                          obtain ⟨l0, l1, l2⟩ := look_same (said.take x) y
                          have h11 : e ∈ said := List.mem_of_mem_take h6
                          rw [l0] at h7
                          rw [l1] at h8
                          rw [l2] at h9
                          rw [← HLk.out] at h10
                          exact ⟨e, h11, h7, h8, h9, h10⟩⟩
                        by_cases h5 : n < ys1.length
                        · have e5 : decide ((n : Int) < ys1.length) = true := dt (by omega)
                          go_wp2_with fail
                          refine (HTw.out.stepA HF.out.1 HF.out.2 ⟨y.f0, y.f1, y.f2, o.A, o.c, o.sum⟩ HOk.out (fun h2 hf => by
                            obtain ⟨e, h6, h7, h8, h9, h10⟩ := HSd.out hf
                            exact ⟨e, h6, h7.trans h2, h8, h9, h10⟩)).mono ?_
                          rintro e w9 ⟨⟨kk, rfl⟩, hT9⟩
                          have HT9 := Aside0.mk hT9
                          clear hT9 b0 b1 b2 b3
                          go_wp2_with fail
                          go_roundw
                          case rel => exact ⟨n + 1, said, _, _, by omega, by omega, by go_num, HT9⟩
                          case measure => simp [RowKit.intOf]; omega
                        · have e5 : decide ((n : Int) < ys1.length) = false := df (by omega)
                          go_wp2_with fail
                          refine (HTw.out.stepB HF.out.1 HF.out.2 ⟨y.f0, y.f1, y.f2, o.A, o.c, o.sum⟩ HOk.out (fun h2 hf => by
                            obtain ⟨e, h6, h7, h8, h9, h10⟩ := HSd.out hf
                            exact ⟨e, h6, h7.trans h2, h8, h9, h10⟩)).mono ?_
                          rintro e w9 ⟨⟨kk, rfl⟩, hT9⟩
                          have HT9 := Aside0.mk hT9
                          clear hT9 b0 b1 b2 b3
                          go_wp2_with fail
                          go_roundw
                          case rel => exact ⟨n + 1, said, _, _, by omega, by omega, by go_num, HT9⟩
                          case measure => simp [RowKit.intOf]; omega
                      | false =>
                        rw [show (false || (said.take x).any (fun e => keyB e y)) = (said.take x).any (fun e => keyB e y) by simp]
                        obtain ⟨bz, hbz⟩ : ∃ b, (said.take x).any (fun e => keyB e y) = b := ⟨_, rfl⟩
                        have HBZ := Aside0.mk hbz
                        obtain ⟨ads, eS, s0, s1, s2, s3⟩ := rop_at (Kd.R_reads' (Kd.R_below HT.out.rs HBw.out)).2.2 x hx
                        have HES : Aside0 (A13 = some ads) := ⟨eS⟩
                        have eS2 := HES.out
                        clear eS
                        rw [eS2]
                        clear eS2
                        have HZ0 : ∃ z, Aside0 (said[x] = z) := ⟨_, ⟨rfl⟩⟩
                        obtain ⟨z, HZ⟩ := HZ0
                        have hZ := HZ.out
                        rw [hZ] at s0 s1 s2 s3
                        clear hZ hbz bz HBZ
                        have b0 : wr.cell? ⟨g, 0, none⟩ = some (.int .i64 y.f0) := (blk_cell HXb.out 0).trans rfl
                        have b1 : wr.cell? ⟨g, 1, none⟩ = some (.int .u64 y.f1) := (blk_cell HXb.out 1).trans rfl
                        have b2 : wr.cell? ⟨g, 2, none⟩ = some (.int .u64 y.f2) := (blk_cell HXb.out 2).trans rfl
                        by_cases k0 : z.f0 = y.f0
                        · by_cases k1 : z.f1 = y.f1
                          · by_cases k2 : z.f2 = y.f2
                            · skip
                              have hkey : keyB z y = true := keyB_eq.2 ⟨k0, k1, k2⟩
                              have HKy := Aside0.mk hkey
                              have e0 : (z.f0 == y.f0) = true := beq_iff_eq.2 k0
                              have e1 : (z.f1 == y.f1) = true := beq_iff_eq.2 k1
                              have e2 : (z.f2 == y.f2) = true := beq_iff_eq.2 k2
                              clear hkey k0 k1 k2
                              go_wp2_with fail
                              go_quiet (fail)
                              have HXn : Aside0 ((wr.drewN nq).heap[g]? = some (.cells #[.int .i64 y.f0, .int .u64 y.f1, .int .u64 y.f2, .slice o.A o.sum.length o.c] 33 (0, 0))) := ⟨HXb.out⟩
                              have z3 := blk_frozen HXn.out 3
                              have y3 : (wr.drewN nq).cell? ⟨g, 3, none⟩ = some (.slice o.A o.sum.length o.c) := (blk_cell HXn.out 3).trans rfl
                              go_wp2_with fail
                              have HX9 := Aside0.mk (blk_setCell HXn.out 3 (.slice z.A z.sum.length z.c))
                              have HB9 : Aside0 (Below Wr.heap.size Wr ((wr.drewN nq).setCell ⟨g, 3, none⟩ (.slice z.A z.sum.length z.c))) := ⟨(pw_below_drewN HBw.out nq).setCell (Nat.le_of_eq HG.out) _⟩
                              go_roundw
                              case rel => exact ⟨x + 1, takeS z o, by omega, by go_num, by rw [any_take said y x hx, HZ.out, HKy.out]; simp, ⟨fun h => by cases h⟩, ⟨by rw [look_take said y x hx, HZ.out, HKy.out, ← HLk.out]; rfl⟩, HX9, HB9⟩
                              case measure => simp [RowKit.intOf]; omega
                            · skip
                              have hkey : keyB z y = false := by
                                cases hk : keyB z y with
                                | false => rfl
                                | true => exact absurd (keyB_eq.1 hk).2.2 k2
                              have HKy := Aside0.mk hkey
                              have e0 : (z.f0 == y.f0) = true := beq_iff_eq.2 k0
                              have e1 : (z.f1 == y.f1) = true := beq_iff_eq.2 k1
                              have e2 : (z.f2 == y.f2) = false := beq_eq_false_iff_ne.2 k2
                              clear hkey k0 k1 k2
                              go_wp2_with fail
                              go_quiet (fail)
                              go_wp2_with fail
                              go_roundw
                              case rel => exact ⟨x + 1, o, by omega, by go_num, by rw [any_take said y x hx, HZ.out, HKy.out]; simp, ⟨fun h => by cases h⟩, ⟨by rw [look_take said y x hx, HZ.out, HKy.out, ← HLk.out]; rfl⟩, ⟨HXb.out⟩, ⟨pw_below_drewN HBw.out nq⟩⟩
                              case measure => simp [RowKit.intOf]; omega
                          · skip
                            have hkey : keyB z y = false := by
                              cases hk : keyB z y with
                              | false => rfl
                              | true => exact absurd (keyB_eq.1 hk).2.1 k1
                            have HKy := Aside0.mk hkey
                            have e0 : (z.f0 == y.f0) = true := beq_iff_eq.2 k0
                            have e1 : (z.f1 == y.f1) = false := beq_eq_false_iff_ne.2 k1
                            clear hkey k0 k1
                            go_wp2_with fail
                            go_quiet (fail)
                            go_wp2_with fail
                            go_roundw
                            case rel => exact ⟨x + 1, o, by omega, by go_num, by rw [any_take said y x hx, HZ.out, HKy.out]; simp, ⟨fun h => by cases h⟩, ⟨by rw [look_take said y x hx, HZ.out, HKy.out, ← HLk.out]; rfl⟩, ⟨HXb.out⟩, ⟨pw_below_drewN HBw.out nq⟩⟩
                            case measure => simp [RowKit.intOf]; omega
                        · skip
                          have hkey : keyB z y = false := by
                            cases hk : keyB z y with
                            | false => rfl
                            | true => exact absurd (keyB_eq.1 hk).1 k0
                          have HKy := Aside0.mk hkey
                          have e0 : (z.f0 == y.f0) = false := beq_eq_false_iff_ne.2 k0
                          clear hkey k0
                          go_wp2_with fail
                          go_quiet (fail)
                          go_wp2_with fail
                          go_roundw
                          case rel => exact ⟨x + 1, o, by omega, by go_num, by rw [any_take said y x hx, HZ.out, HKy.out]; simp, ⟨fun h => by cases h⟩, ⟨by rw [look_take said y x hx, HZ.out, HKy.out, ← HLk.out]; rfl⟩, ⟨HXb.out⟩, ⟨pw_below_drewN HBw.out nq⟩⟩
                          case measure => simp [RowKit.intOf]; omega
                    · have hx4 : ¬ ((x : Int) < said.length) := by omega
                      have hxe : said.take x = said := by rw [show x = said.length by omega]; simp
                      cases bad with
                      | true =>
                        rw [show (true || (said.take x).any (fun e => keyB e y)) = true by simp]
                        have HTw := Aside0.mk (HT.out.keep HBw.out)
                        have b0 : wr.cell? ⟨g, 0, none⟩ = some (.int .i64 y.f0) := (blk_cell HXb.out 0).trans rfl
                        have b1 : wr.cell? ⟨g, 1, none⟩ = some (.int .u64 y.f1) := (blk_cell HXb.out 1).trans rfl
                        have b2 : wr.cell? ⟨g, 2, none⟩ = some (.int .u64 y.f2) := (blk_cell HXb.out 2).trans rfl
                        have b3 : wr.cell? ⟨g, 3, none⟩ = some (.slice o.A o.sum.length o.c) := (blk_cell HXb.out 3).trans rfl
                        have HOk : Aside0 (okRO W0 ⟨y.f0, y.f1, y.f2, o.A, o.c, o.sum⟩) := ⟨by
                          have h1 := okRO_look (said := said.take x) HYk.out (fun e he => HT.out.ok e (List.mem_of_mem_take he))
                          rw [← HLk.out] at h1
                          exact ⟨HYk.out.f1, HYk.out.f2, h1.bytes, h1.len, h1.cap, h1.read⟩⟩
                        have HSd : Aside0 (faultyB F y.f1 = false → ∃ e ∈ said, e.f0 = y.f0 ∧ e.f1 = y.f1 ∧ e.f2 = y.f2 ∧ e.sum = o.sum) := ⟨fun hf => by
                          have h0 : (said.take x).any (fun e => keyB e y) = true := (by rw [HBAD.out] at hf; cases hf)
                          obtain ⟨e, h6, h7, h8, h9, h10⟩ := said_of h0
                          obtain ⟨l0, l1, l2⟩ := look_same (said.take x) y
                          have h11 : e ∈ said := List.mem_of_mem_take h6
                          rw [l0] at h7
                          rw [l1] at h8
                          rw [l2] at h9
                          rw [← HLk.out] at h10
                          exact ⟨e, h11, h7, h8, h9, h10⟩⟩
                        by_cases h5 : n < ys1.length
                        · have e5 : decide ((n : Int) < ys1.length) = true := dt (by omega)
                          go_wp2_with fail
                          refine (HTw.out.stepA HF.out.1 HF.out.2 ⟨y.f0, y.f1, y.f2, o.A, o.c, o.sum⟩ HOk.out (fun h2 hf => by
                            obtain ⟨e, h6, h7, h8, h9, h10⟩ := HSd.out hf
                            exact ⟨e, h6, h7.trans h2, h8, h9, h10⟩)).mono ?_
                          rintro e w9 ⟨⟨kk, rfl⟩, hT9⟩
                          have HT9 := Aside0.mk hT9
                          clear hT9 b0 b1 b2 b3
                          go_wp2_with fail
                          go_roundw
                          case rel => exact ⟨n + 1, said, _, _, by omega, by omega, by go_num, HT9⟩
                          case measure => simp [RowKit.intOf]; omega
                        · have e5 : decide ((n : Int) < ys1.length) = false := df (by omega)
                          go_wp2_with fail
                          refine (HTw.out.stepB HF.out.1 HF.out.2 ⟨y.f0, y.f1, y.f2, o.A, o.c, o.sum⟩ HOk.out (fun h2 hf => by
                            obtain ⟨e, h6, h7, h8, h9, h10⟩ := HSd.out hf
                            exact ⟨e, h6, h7.trans h2, h8, h9, h10⟩)).mono ?_
                          rintro e w9 ⟨⟨kk, rfl⟩, hT9⟩
                          have HT9 := Aside0.mk hT9
                          clear hT9 b0 b1 b2 b3
                          go_wp2_with fail
                          go_roundw
                          case rel => exact ⟨n + 1, said, _, _, by omega, by omega, by go_num, HT9⟩
                          case measure => simp [RowKit.intOf]; omega
                      | false =>
                        obtain ⟨isv, hany⟩ : ∃ b, (said.take x).any (fun e => keyB e y) = b := ⟨_, rfl⟩
                        rw [show (false || (said.take x).any (fun e => keyB e y)) = isv by rw [hany]; rfl]
                        cases isv with
                        | true =>
                          have hanyP : faultyB F y.f1 = false → (said.take x).any (fun e => keyB e y) = true := fun _ => hany
                          clear hany
                          have HTw := Aside0.mk (HT.out.keep HBw.out)
                          have b0 : wr.cell? ⟨g, 0, none⟩ = some (.int .i64 y.f0) := (blk_cell HXb.out 0).trans rfl
                          have b1 : wr.cell? ⟨g, 1, none⟩ = some (.int .u64 y.f1) := (blk_cell HXb.out 1).trans rfl
                          have b2 : wr.cell? ⟨g, 2, none⟩ = some (.int .u64 y.f2) := (blk_cell HXb.out 2).trans rfl
                          have b3 : wr.cell? ⟨g, 3, none⟩ = some (.slice o.A o.sum.length o.c) := (blk_cell HXb.out 3).trans rfl
                          have HOk : Aside0 (okRO W0 ⟨y.f0, y.f1, y.f2, o.A, o.c, o.sum⟩) := ⟨by
                            have h1 := okRO_look (said := said.take x) HYk.out (fun e he => HT.out.ok e (List.mem_of_mem_take he))
                            rw [← HLk.out] at h1
                            exact ⟨HYk.out.f1, HYk.out.f2, h1.bytes, h1.len, h1.cap, h1.read⟩⟩
                          have HSd : Aside0 (faultyB F y.f1 = false → ∃ e ∈ said, e.f0 = y.f0 ∧ e.f1 = y.f1 ∧ e.f2 = y.f2 ∧ e.sum = o.sum) := ⟨fun hf => by
                            have h0 : (said.take x).any (fun e => keyB e y) = true := hanyP hf
                            obtain ⟨e, h6, h7, h8, h9, h10⟩ := said_of h0
                            obtain ⟨l0, l1, l2⟩ := look_same (said.take x) y
                            have h11 : e ∈ said := List.mem_of_mem_take h6
                            rw [l0] at h7
                            rw [l1] at h8
                            rw [l2] at h9
                            rw [← HLk.out] at h10
                            exact ⟨e, h11, h7, h8, h9, h10⟩⟩
                          by_cases h5 : n < ys1.length
                          · have e5 : decide ((n : Int) < ys1.length) = true := dt (by omega)
                            go_wp2_with fail
                            refine (HTw.out.stepA HF.out.1 HF.out.2 ⟨y.f0, y.f1, y.f2, o.A, o.c, o.sum⟩ HOk.out (fun h2 hf => by
                              obtain ⟨e, h6, h7, h8, h9, h10⟩ := HSd.out hf
                              exact ⟨e, h6, h7.trans h2, h8, h9, h10⟩)).mono ?_
                            rintro e w9 ⟨⟨kk, rfl⟩, hT9⟩
                            have HT9 := Aside0.mk hT9
                            clear hT9 b0 b1 b2 b3
                            go_wp2_with fail
                            go_roundw
                            case rel => exact ⟨n + 1, said, _, _, by omega, by omega, by go_num, HT9⟩
                            case measure => simp [RowKit.intOf]; omega
                          · have e5 : decide ((n : Int) < ys1.length) = false := df (by omega)
                            go_wp2_with fail
                            refine (HTw.out.stepB HF.out.1 HF.out.2 ⟨y.f0, y.f1, y.f2, o.A, o.c, o.sum⟩ HOk.out (fun h2 hf => by
                              obtain ⟨e, h6, h7, h8, h9, h10⟩ := HSd.out hf
                              exact ⟨e, h6, h7.trans h2, h8, h9, h10⟩)).mono ?_
                            rintro e w9 ⟨⟨kk, rfl⟩, hT9⟩
                            have HT9 := Aside0.mk hT9
                            clear hT9 b0 b1 b2 b3
                            go_wp2_with fail
                            go_roundw
                            case rel => exact ⟨n + 1, said, _, _, by omega, by omega, by go_num, HT9⟩
                            case measure => simp [RowKit.intOf]; omega
                        | false =>
                          rw [hxe] at hany
                          have HLk2 : Aside0 (o = look said y) := ⟨by have := HLk.out; rw [hxe] at this; exact this⟩
                          clear HLk hxe
                          have HLk := HLk2
                          have HTw := Aside0.mk (HT.out.keep HBw.out)
                          have b0 : wr.cell? ⟨g, 0, none⟩ = some (.int .i64 y.f0) := (blk_cell HXb.out 0).trans rfl
                          have b1 : wr.cell? ⟨g, 1, none⟩ = some (.int .u64 y.f1) := (blk_cell HXb.out 1).trans rfl
                          have b2 : wr.cell? ⟨g, 2, none⟩ = some (.int .u64 y.f2) := (blk_cell HXb.out 2).trans rfl
                          have b3 : wr.cell? ⟨g, 3, none⟩ = some (.slice o.A o.sum.length o.c) := (blk_cell HXb.out 3).trans rfl
                          have HPk : Aside0 (∀ k, (Value.slice A13 said.length c13).ownBlock = some k → k ≠ g ∧ k < wr.heap.size) := ⟨fun k hk => by
                            have h1 : k < Wr.heap.size := Kd.R_lt HT.out.rs k hk
                            have h2 := HBw.out.size
                            have h3 := HG.out
                            omega⟩
                          have HNo : Aside0 (said.any (fun e => keyB e y) = false) := ⟨hany⟩
                          have hsl60 : said.length ≤ 200 := by omega
                          clear hany
                          by_cases h5 : n < ys1.length
                          · have e5 : decide ((n : Int) < ys1.length) = true := dt (by omega)
                            go_wp2_with (at_builtin; refine Kd.R_append kR (w0 := W0) (W := wr) 0 rfl (.tmp 159) (.tmp 161) 22 33 (.agg #[.int .i64 0, .int .u64 0, .int .u64 0, .slice none 0 0]) 48 rfl Try.underlying22 info33 rfl (by decide) (by omega) (.slice A13 said.length c13) said ⟨y.f0, y.f1, y.f2, o.A, o.c, o.sum⟩ [.int .i64 y.f0, .int .u64 y.f1, .int .u64 y.f2, .slice o.A o.sum.length o.c] (fun k => (Value.slice (some ad) all.length c14).ownBlock ≠ some k ∧ W0.heap.size ≤ k) (fun _ => False) rfl rfl (kR_mkM _ _ _ _) (fun k hk => hk.elim) (fun k hk => ⟨fun e => by
                                have h1 := Kd.R_lt HTw.out.ra k e
                                omega, Nat.le_trans HTw.out.nop hk⟩) HTw.out.rs (HTw.out.duo.below.mono (Nat.zero_le _)) (Nat.zero_le _) (by omega) ?_; intro v1 w1 ho _ hg hat; have hXn : w1.heap[g]? = some (.cells #[.int .i64 y.f0, .int .u64 y.f1, .int .u64 y.f2, .slice o.A o.sum.length o.c] 33 (0, 0)) := (hg.block g (blk_lt HXb.out) (fun e => (HPk.out g e.symm).1 rfl)).trans HXb.out; have n0 := (blk_cell hXn 0).trans rfl; have n1 := (blk_cell hXn 1).trans rfl; have n2 := (blk_cell hXn 2).trans rfl; have n3 := (blk_cell hXn 3).trans rfl)
                            have HOo : Aside0 (o = y) := ⟨by rw [HLk.out]; exact look_none _ HNo.out⟩
                            have HT2 : Aside0 (TwoAt W0 w1 la ma lb mb f F v1 (.slice (some ad) all.length c14) all (said ++ [y]) Ma Mb) := ⟨by
                              have h1 : (⟨y.f0, y.f1, y.f2, o.A, o.c, o.sum⟩ : ROp) = y := by rw [HOo.out]
                              rw [h1] at ho
                              exact HTw.out.push hg ho HYk.out HNo.out⟩
                            have HOk : Aside0 (okRO W0 ⟨y.f0, y.f1, y.f2, o.A, o.c, o.sum⟩) := ⟨by rw [HOo.out]; exact HYk.out⟩
                            have HSd : Aside0 (∃ e ∈ said ++ [y], e.f0 = y.f0 ∧ e.f1 = y.f1 ∧ e.f2 = y.f2 ∧ e.sum = o.sum) := ⟨⟨y, by simp, rfl, rfl, rfl, by rw [HOo.out]⟩⟩
                            clear ho hg hat b0 b1 b2 b3
                            refine (HT2.out.stepA HF.out.1 HF.out.2 ⟨y.f0, y.f1, y.f2, o.A, o.c, o.sum⟩ HOk.out (fun h2 _ => by
                              obtain ⟨e, h6, h7, h8, h9, h10⟩ := HSd.out
                              exact ⟨e, h6, h7.trans h2, h8, h9, h10⟩)).mono ?_
                            rintro e w9 ⟨⟨kk, rfl⟩, hT9⟩
                            have HT9 := Aside0.mk hT9
                            clear hT9 n0 n1 n2 n3 hXn
                            go_wp2_with fail
                            go_roundw
                            case rel => exact ⟨n + 1, said ++ [y], _, _, by omega, by simp; omega, by go_num, HT9⟩
                            case measure => simp [RowKit.intOf]; omega
                          · have e5 : decide ((n : Int) < ys1.length) = false := df (by omega)
                            go_wp2_with (at_builtin; refine Kd.R_append kR (w0 := W0) (W := wr) 0 rfl (.tmp 159) (.tmp 161) 22 33 (.agg #[.int .i64 0, .int .u64 0, .int .u64 0, .slice none 0 0]) 48 rfl Try.underlying22 info33 rfl (by decide) (by omega) (.slice A13 said.length c13) said ⟨y.f0, y.f1, y.f2, o.A, o.c, o.sum⟩ [.int .i64 y.f0, .int .u64 y.f1, .int .u64 y.f2, .slice o.A o.sum.length o.c] (fun k => (Value.slice (some ad) all.length c14).ownBlock ≠ some k ∧ W0.heap.size ≤ k) (fun _ => False) rfl rfl (kR_mkM _ _ _ _) (fun k hk => hk.elim) (fun k hk => ⟨fun e => by
                                have h1 := Kd.R_lt HTw.out.ra k e
                                omega, Nat.le_trans HTw.out.nop hk⟩) HTw.out.rs (HTw.out.duo.below.mono (Nat.zero_le _)) (Nat.zero_le _) (by omega) ?_; intro v1 w1 ho _ hg hat; have hXn : w1.heap[g]? = some (.cells #[.int .i64 y.f0, .int .u64 y.f1, .int .u64 y.f2, .slice o.A o.sum.length o.c] 33 (0, 0)) := (hg.block g (blk_lt HXb.out) (fun e => (HPk.out g e.symm).1 rfl)).trans HXb.out; have n0 := (blk_cell hXn 0).trans rfl; have n1 := (blk_cell hXn 1).trans rfl; have n2 := (blk_cell hXn 2).trans rfl; have n3 := (blk_cell hXn 3).trans rfl)
                            have HOo : Aside0 (o = y) := ⟨by rw [HLk.out]; exact look_none _ HNo.out⟩
                            have HT2 : Aside0 (TwoAt W0 w1 la ma lb mb f F v1 (.slice (some ad) all.length c14) all (said ++ [y]) Ma Mb) := ⟨by
                              have h1 : (⟨y.f0, y.f1, y.f2, o.A, o.c, o.sum⟩ : ROp) = y := by rw [HOo.out]
                              rw [h1] at ho
                              exact HTw.out.push hg ho HYk.out HNo.out⟩
                            have HOk : Aside0 (okRO W0 ⟨y.f0, y.f1, y.f2, o.A, o.c, o.sum⟩) := ⟨by rw [HOo.out]; exact HYk.out⟩
                            have HSd : Aside0 (∃ e ∈ said ++ [y], e.f0 = y.f0 ∧ e.f1 = y.f1 ∧ e.f2 = y.f2 ∧ e.sum = o.sum) := ⟨⟨y, by simp, rfl, rfl, rfl, by rw [HOo.out]⟩⟩
                            clear ho hg hat b0 b1 b2 b3
                            refine (HT2.out.stepB HF.out.1 HF.out.2 ⟨y.f0, y.f1, y.f2, o.A, o.c, o.sum⟩ HOk.out (fun h2 _ => by
                              obtain ⟨e, h6, h7, h8, h9, h10⟩ := HSd.out
                              exact ⟨e, h6, h7.trans h2, h8, h9, h10⟩)).mono ?_
                            rintro e w9 ⟨⟨kk, rfl⟩, hT9⟩
                            have HT9 := Aside0.mk hT9
                            clear hT9 n0 n1 n2 n3 hXn
                            go_wp2_with fail
                            go_roundw
                            case rel => exact ⟨n + 1, said ++ [y], _, _, by omega, by simp; omega, by go_num, HT9⟩
                            case measure => simp [RowKit.intOf]; omega
          · have h3 : ¬ ((n : Int) < all.length) := by omega
            clear hlt hra
            go_wp2_with fail
            obtain ⟨n0, hn0⟩ : ∃ k : Nat, k = n := ⟨_, rfl⟩
            go_loopw [21] (fun v21 w' => ∃ k : Nat, k ≤ all.length ∧ v21 = .int .i64 k ∧ Aside0 (TwoAt W0 w' la ma lb mb f F (.slice A13 said.length c13) (.slice A14 all.length c14) all said Ma Mb)) (fun v21 _ => all.length - (RowKit.intOf v21).toNat)
            case atStart => exact ⟨0, by omega, rfl, HT⟩
            case round =>
              obtain ⟨k, hk, rfl, HTk⟩ := hrel
              by_cases hkl : k < all.length
              · have hk3 : (k : Int) < all.length := by omega
                obtain ⟨ad, eA, o0, o1, o2, o3⟩ := rop_at (Kd.R_reads' HTk.out.ra).2.2 k hkl
                have HEA : Aside0 (A14 = some ad) := ⟨eA⟩
                have eA2 := HEA.out
                clear eA
                rw [eA2]
                clear eA2
                have HYk : Aside0 (okRO W0 all[k]) := ⟨HALL.out _ (List.getElem_mem hkl)⟩
                obtain ⟨y, hy⟩ : ∃ y, all[k] = y := ⟨_, rfl⟩
                rw [hy] at o0 o1 o2 o3 HYk
                clear hy
                have HQ := Aside0.mk (okQ_of (u64_of HYk.out.f2).1 (u64_of HYk.out.f2).2)
                go_wp2_with fail
                refine (Committed_any HTk.out.duo.a HTk.out.ia.ok HF.out.1 HF.out.2 HQ.out).mono ?_
                rintro e w5 ⟨v22, rfl, ho22, hb⟩
                have HT5 := Aside0.mk (HTk.out.keep hb)
                obtain ⟨A22, c22, e22, l22, r22, _⟩ := ho22.reads
                subst e22
                have HO5 := Aside0.mk r22
                have q2 := fr_ret hb o2
                clear o0 o1 o2 o3 hb ho22 l22 r22
                go_wp2_with fail
                refine (Committed_any HT5.out.duo.b HT5.out.ib.ok HF.out.1 HF.out.2 HQ.out).mono ?_
                rintro e w6 ⟨v24, rfl, ho24, hb⟩
                have HT6 := Aside0.mk (HT5.out.keep hb)
                have HO6 := Aside0.mk (Kd.R_below HO5.out hb)
                obtain ⟨A24, c24, e24, l24, r24, _⟩ := ho24.reads
                subst e24
                have HP6 := Aside0.mk r24
                clear q2 hb ho24 l24 r24
                cases hca : committedV f Ma y.f2 with
                | none =>
                  clear HO6 HP6 HO5
                  go_wp2_with fail
                  go_roundw
                  case rel => exact ⟨k + 1, by omega, by go_num, ⟨by have h := HT6.out; rw [HEA.out] at h; exact h⟩⟩
                  case measure => simp [RowKit.intOf]; omega
                | some sa =>
                  cases hcb : committedV f Mb y.f2 with
                  | none =>
                    clear HO6 HP6 HO5
                    go_wp2_with fail
                    go_roundw
                    case rel => exact ⟨k + 1, by omega, by go_num, ⟨by have h := HT6.out; rw [HEA.out] at h; exact h⟩⟩
                    case measure => simp [RowKit.intOf]; omega
                  | some sb =>
                    have hss : sa = sb := two_same HF.out.1 HF.out.2 HFl.out HT6.out.su HT6.out.ia HT6.out.ib HT6.out.ha HT6.out.hb hca hcb
                    have hR1 : kB.R 5 w6 0 tr (.slice A22 sa.length c22) sa := by have := HO6.out; rw [hca] at this; exact this
                    have hR2 : kB.R 5 w6 0 tr (.slice A24 sb.length c24) sb := by have := HP6.out; rw [hcb] at this; exact this
                    have hlen : sa.length < 1000000 := by
                      unfold committedV at hca
                      cases hs : getQ Ma.L y.f2 with
                      | none => rw [hs] at hca; cases hca
                      | some s =>
                        rw [hs] at hca
                        simp only [Option.bind_some] at hca
                        split at hca
                        · obtain rfl := Option.some.inj hca
                          have := (HT6.out.ia.ok.get hs).2.1
                          omega
                        · cases hca
                    have hsm := same_any (Kd.R_reads' hR1).2.2 (Kd.R_reads' hR1).2.1 (Kd.R_reads' hR2).2.2 (Kd.R_reads' hR2).2.1 hss hlen
                    clear hss hR1 hR2 hlen hca hcb HO6 HP6 HO5
                    go_wp2_with fail
                    refine hsm.mono ?_
                    rintro e w7 ⟨rfl, n7, rfl⟩
                    go_wp2_with fail
                    go_roundw
                    case rel => exact ⟨k + 1, by omega, by go_num, ⟨by have h := HT6.out.keep (pw_below_drewN (Below.refl _ _) n7); rw [HEA.out] at h; exact h⟩⟩
                    case measure => simp [RowKit.intOf]; omega
              · have hk3 : ¬ ((k : Int) < all.length) := by omega
                clear hkl
                go_wp2_with fail
                refine (alive_any _).mono ?_
                rintro e wz ⟨rfl, hb⟩
                have HBz := Aside0.mk (below_to (HB0.out.trans (HTk.out.duo.below.mono HB0.out.size)) (Nat.le_refl _) hb)
                clear hb
                go_wp2_with fail
                go_ret
                exact ⟨rfl, HBz.out⟩
def u64Ok (a : Int) : Prop := (Lit.int .u64 a).wf = true
theorem rd_u64s : RdT Try.prog 23 (Kd.slice 30 kU) (fun l => ∀ a ∈ l, u64Ok a) := RdT.slice Try.underlying23 (by kernel_rfl) (RdT.int Try.underlying30)
theorem slotsTwo_law (f : Int) (A1 : Option Addr) (c1 : Nat) (l1 : List S33) (A2 : Option Addr) (c2 : Nat) (l2 : List S33) (A3 : Option Addr) (c3 : Nat) (F : List Int) (w : World) (_ : (Lit.int .i64 f).wf = true) (hr1 : Kd.C k33 w A1 l1.length l1) (hc1 : l1.length ≤ c1) (hok1 : ∀ x ∈ l1, opOk x) (hr2 : Kd.C k33 w A2 l2.length l2) (hc2 : l2.length ≤ c2) (hok2 : ∀ x ∈ l2, opOk x) (hr3 : Kd.C kU w A3 F.length F) (_ : F.length ≤ c3) (_ : ∀ x ∈ F, (Lit.int .u64 x).wf = true) :
    Calls Try.prog 3 #[.int .i64 f, .slice A1 l1.length c1, .slice A2 l2.length c2, .slice A3 F.length c3] w fun e w' => e = .returned (.bool true) ∧ Below w.heap.size w w' := two_any f A1 c1 l1 A2 c2 l2 A3 c3 F w hr1 hc1 hok1 hr2 hc2 hok2 hr3
end Go.Proofs.Ytfjfggnbkopocaa
