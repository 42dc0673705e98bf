/- Words and walks for Split and Tablet: texts of these sessions, and of the kit's print, cut down to what is used (V3 X3 B4 C4 E4 F4). -/
import Derived.Test.YtpckachmleonlaaGreatDoorCu35
import Derived.Test.YtpckachmleonlaaGreatDoorCu29
import Derived.Test.YtpckachmleonlaaGreatDoorCu31
import Derived.Test.YtpckachmleonlaaGreatDoorCu3
import Derived.Test.YtpckachmleonlaaGreatDoorCu5
import Derived.Test.YtpckachmleonlaaGreatDoorCu34
section
set_option linter.unusedVariables false
set_option linter.unusedSimpArgs false
namespace Go.Proofs.YtpckachmleonlaaGreatDoor
open Go.RowKit Go.Proofs.YtpckachmleonlaaGreatDoorW.PrintWords
def rowsOf (cs : List CellM) : List ByteArray := compS (cs.map fun x => x.f0.f0)
def midR (cs : List CellM) : ByteArray := if (rowsOf cs).length < 2 then ⟨#[]⟩ else (rowsOf cs).getD ((rowsOf cs).length / 2) ⟨#[]⟩
def midB (cs : List CellM) : Bool := decide (2 ≤ (rowsOf cs).length)
set_option maxHeartbeats 4000000 in
set_option maxRecDepth 100000 in
theorem middle_any (ok : Nat → Prop) (w : World) (p : Nat) (a b : ByteArray) (cs : List CellM) (h : TabAt ok w p a b cs) (hcs : OkL cs) (hl : cs.length ≤ 100) :
    Calls Tryz.prog 19 #[.pointer (some ⟨p, 0, none⟩)] w fun e w' => e = .returned (.tuple #[.string (midR cs), .bool (midB cs)]) ∧ Below w.heap.size w w' := by
  have HALL := zA.mk (zG ok w p a b cs h hcs hl)
  have HL := zA.mk hl
  obtain ⟨n, hn⟩ : ∃ n, cs.length = n := ⟨_, rfl⟩
  have HN := zA.mk hn
  rw [hn] at hl
  clear h hcs hn
  go_enter Tryz.func19, Tryz.ntmps19
  go_wp2_with fail
  refine HALL.out.mono ?_
  rintro e w2 ⟨v, rfl, hr, hb⟩
  obtain ⟨A2, c2, e2⟩ := Kd.zAk hr
  subst e2
  have HC2 : zA (kC.C w2 A2 n cs) := ⟨by rw [← HN.out]; exact (Kd.zFc hr).2.2⟩
  have HB2 := zA.mk hb
  rw [HN.out]
  clear hr hb HALL
  go_upto_region 3 with fail
  go_loopg [4, 6, 10] n (fun gg v4 v6 v10 wr => ∃ (k : Nat) (A4 : Option Addr) (c4 : Nat), k ≤ n ∧ n - k ≤ gg ∧ v10 = .int .i64 k ∧ v4 = .slice A4 k c4 ∧ zA (Kd.R Kd.string 9 wr w2.heap.size (fun _ => True) (.slice A4 k c4) ((cs.take k).map fun x => x.f0.f0)) ∧ zA (Below w2.heap.size w2 wr))
  case atStart => exact ⟨0, none, 0, Nat.zero_le _, by omega, rfl, rfl, ⟨Kd.R_nil _ _ _ _ _⟩, ⟨Below.refl _ _⟩⟩
  case round =>
    obtain ⟨k, A4, c4, hk, hg, rfl, rfl, HR, HB⟩ := hrel
    by_cases hlt : k < n
    · have hltz : (k : Int) < (n : Int) := by omega
      obtain ⟨ad, A5, c5, rfl, p0, p1, p2, p3, p4, p5, p6, p7⟩ := PSplitCuts.zGe (Kd.zBa HC2.out HB.out) (k : Int) (by omega) hltz
      simp only [Int.toNat_natCast] at p0 p1 p2 p3 p4 p5
      have hxk : cs[k]? = some (PSplitCuts.zBb cs k) := by
        unfold PSplitCuts.zBb
        rw [Int.toNat_natCast, List.getD_eq_getElem?_getD, List.getElem?_eq_getElem (by have := HN.out; omega)]
        rfl
      generalize PSplitCuts.zBb cs (k : Int) = x at p0 p1 p2 p3 p4 p5 p6 p7 hxk
      have HX := zA.mk hxk
      obtain ⟨lx, hlx⟩ : ∃ lx, x.f1.length = lx := ⟨_, rfl⟩
      rw [hlx] at p4
      clear hxk hlx p6 p7
      have HR1 : zA (Kd.R Kd.string 9 (wr.alloc (.cells #[.string x.f0.f0, .string x.f0.f1, .string x.f0.f2, .int .u64 x.f0.f3, .slice A5 lx c5, .bool x.f2] 49)) w2.heap.size (fun _ => True) (.slice A4 k c4) ((cs.take k).map fun x => x.f0.f0)) := ⟨Kd.zCa HR.out _⟩
      have HB1 : zA (Below w2.heap.size w2 (wr.alloc (.cells #[.string x.f0.f0, .string x.f0.f1, .string x.f0.f2, .int .u64 x.f0.f3, .slice A5 lx c5, .bool x.f2] 49))) := ⟨zAa HB.out _⟩
      have hx1 := heap_alloc_new wr (.cells #[.string x.f0.f0, .string x.f0.f1, .string x.f0.f2, .int .u64 x.f0.f3, .slice A5 lx c5, .bool x.f2] 49)
      go_upto_region 5 with fail
      generalize wr.alloc (.cells #[.string x.f0.f0, .string x.f0.f1, .string x.f0.f2, .int .u64 x.f0.f3, .slice A5 lx c5, .bool x.f2] 49) = w5 at HR1 HB1 hx1 ⊢
      have d0 := (zAb hx1 0).trans (rfl : _ = some (Value.string x.f0.f0))
      have hlx1 := zAi hx1
      clear hx1 p0 p1 p2 p3 p4 p5
      go_wp2_with (at_builtin; refine Kd.zEd Kd.string (w0 := w2) w2.heap.size rfl (.tmp 14) (.tmp 18) 97 9 (.string ⟨#[]⟩) 16 rfl Tryz.underlying97 info9 rfl (by decide) (by omega) (.slice A4 k c4) ((cs.take k).map fun x => x.f0.f0) x.f0.f0 [.string x.f0.f0] (fun _ => True) (fun _ => False) rfl rfl rfl (fun _ hk => hk.elim) (fun _ _ => trivial) HR1.out HB1.out HB1.out.size (by rw [List.length_map, List.length_take]; have := HN.out; omega) ?_; intro v6 W6 ho hb6 hg6 hat; have HO6 := zA.mk ho; have HB6 := zA.mk hb6; clear ho hb6 hg6 hat d0 hlx1)
      obtain ⟨A6, c6, e6⟩ := Kd.zAk HO6.out
      have hlen : ((cs.take k).map (fun x => x.f0.f0) ++ [x.f0.f0]).length = k + 1 := by rw [List.length_append, List.length_map, List.length_take, List.length_singleton]; have := HN.out; omega
      rw [hlen] at e6
      subst e6
      go_roundg (n - (k + 1))
      case measure => omega
      case rel => exact ⟨k + 1, A6, c6, by omega, by omega, by go_num, rfl, ⟨by
        rw [take_snoc HX.out, List.map_append]
        exact HO6.out⟩, HB6⟩
    · have hltz : ¬ (k : Int) < (n : Int) := by omega
      have hkn : n = k := by omega
      subst hkn
      have e9 : cs.take n = cs := List.take_of_length_le (by rw [HN.out]; exact Nat.le_refl _)
      rw [e9] at HR
      have hcomp := compact_any w2.heap.size _ A4 n c4 wr HR.out (by omega) HB.out.size
      have HCOMP := zA.mk hcomp
      clear hcomp e9
      go_wp2_with fail
      refine HCOMP.out.mono ?_
      rintro e w7 ⟨A7, m, c7, rfl, hm, hmc, hC7, hb7⟩
      have HB7 : zA (Below w.heap.size w w7) := ⟨HB2.out.trans ((HB.out.trans hb7).mono HB2.out.size)⟩
      have HC7 : zA (Kd.C Kd.string w7 A7 m (rowsOf cs)) := ⟨hC7⟩
      have HM7 : zA (m = (rowsOf cs).length) := ⟨hm⟩
      have hmb : m ≤ 100 := by
        have h9 := compS_len (cs.map fun x => x.f0.f0)
        rw [List.length_map] at h9
        have := HL.out
        omega
      clear hm hC7 hb7 HCOMP
      rcases Nat.lt_or_ge m 2 with h2 | h2
      · have d1 : decide ((m : Int) < 2) = true := Cp.dt (by omega)
        have HE : zA (midR cs = ⟨#[]⟩ ∧ midB cs = false) := ⟨by
          unfold midR midB
          rw [if_pos (by rw [← HM7.out]; exact h2)]
          exact ⟨rfl, decide_eq_false (by rw [← HM7.out]; omega)⟩⟩
        go_wp2_with fail
        go_ret2
        exact ⟨by rw [HE.out.1, HE.out.2]; rfl, HB7.out⟩
      · have d1 : decide ((m : Int) < 2) = false := Cp.df (by omega)
        obtain ⟨y, hy⟩ : ∃ y, (rowsOf cs)[m / 2]? = some y := ⟨(rowsOf cs)[m / 2]'(by rw [← HM7.out]; omega), List.getElem?_eq_getElem _⟩
        have HE : zA (midR cs = y ∧ midB cs = true) := ⟨by
          unfold midR midB
          rw [if_neg (by rw [← HM7.out]; omega), ← HM7.out, List.getD_eq_getElem?_getD, hy]
          exact ⟨rfl, decide_eq_true h2⟩⟩
        obtain ⟨hn7, _, hr7⟩ := HC7.out
        obtain ⟨ad, rfl, hc⟩ := hr7 (by omega)
        obtain ⟨cy, hy1, hy2, hy3⟩ := hc (m / 2) y hy
        have q0 : w7.cell? (ad.add (m / 2)) = some (.string y) := by
          have h9 := hy3 0 (.string y) (by rw [show cy = [.string y] from hy2]; rfl)
          simpa [Kd.string, Kd.scalar] using h9
        have hq1 : (m : Int) / 2 < (m : Int) := by omega
        have hq0 : (0 : Int) ≤ (m : Int) / 2 := by omega
        have htn : ((m : Int) / 2).toNat = m / 2 := by omega
        clear hy hc hy1 hy2 hy3 hr7 hn7
        go_wp2_with fail
        go_ret2
        exact ⟨by rw [HE.out.1, HE.out.2]; rfl, HB7.out⟩
end Go.Proofs.YtpckachmleonlaaGreatDoor
end
section
set_option linter.unusedVariables false
set_option linter.unusedSimpArgs false
namespace Go.Proofs.YtpckachmleonlaaGreatDoor.PSplitCuts
open Go.RowKit Go.Proofs.YtpckachmleonlaaGreatDoorW.PrintWords Go.Proofs.YtpckachmleonlaaGreatDoorW.PrintMore Cp
def cutR (a b s : ByteArray) (cs : List CellM) : ByteArray × ByteArray × List CellM × ByteArray × ByteArray × List CellM × Int :=
  if splitK a b s = 0 then (a, s, loC s cs, s, b, hiC s cs, 0) else (⟨#[]⟩, ⟨#[]⟩, [], ⟨#[]⟩, ⟨#[]⟩, [], splitK a b s)
end Go.Proofs.YtpckachmleonlaaGreatDoor.PSplitCuts
namespace Go.Proofs.YtpckachmleonlaaGreatDoor
open Go.RowKit Go.Proofs.YtpckachmleonlaaGreatDoorW.PrintWords
open PSplitCuts (cutR)
end Go.Proofs.YtpckachmleonlaaGreatDoor
end
section
set_option linter.unusedVariables false
set_option linter.unusedSimpArgs false
namespace Go.Proofs.YtpckachmleonlaaGreatDoor
open Go.RowKit Go.Proofs.YtpckachmleonlaaGreatDoorW.PrintWords
def sA : ByteArray := ⟨#[97]⟩
def sB : ByteArray := ⟨#[98]⟩
def sF : ByteArray := ⟨#[102]⟩
def sE : ByteArray := ⟨#[]⟩
def cA : CellM := ⟨⟨sA, sF, sE, 0⟩, [], false⟩
def cB : CellM := ⟨⟨sB, sF, sE, 0⟩, [], false⟩
theorem alive_of : ofK sE sE [cA, cB] = 0 := by decide +kernel
theorem alive_put : zDi [cA, cB] = [cA, cB] := by decide +kernel
theorem alive_mid : midR [cA, cB] = sB ∧ midB [cA, cB] = true := by decide +kernel
theorem alive_cut : splitK sE sE sB = 0 := by decide +kernel
theorem alive_lo : loC sB [cA, cB] = [cA] := by decide +kernel
theorem alive_hi : hiC sB [cA, cB] = [cB] := by decide +kernel
theorem alive_tab : TabL sE sE [cA, cB] := by
  have h := (TabL.of (a := sE) (b := sE) (l := [cA, cB]) (fun x hx => by
    simp only [List.mem_cons, List.not_mem_nil, or_false] at hx
    rcases hx with rfl | rfl <;> exact ⟨by decide, by decide⟩) alive_of).1
  rw [alive_put] at h
  exact h
theorem C_two {w : World} {g : Nat} {fz : Nat × Nat} (h : w.heap[g]? = some (.cells #[.string sA, .string sF, .string sE, .int .u64 0, .slice none 0 0, .bool false, .string sB, .string sF, .string sE, .int .u64 0, .slice none 0 0, .bool false] 49 fz)) : kC.C w (some ⟨g, 0, none⟩) 2 [cA, cB] := by
  have h1 : kH.C w (some ⟨g, 0, none⟩) 2 ([((⟨cA.f0, ⟨none, 0, 0⟩, false⟩ : Ch), cA), (⟨cB.f0, ⟨none, 0, 0⟩, false⟩, cB)].map (·.1)) := by
    refine ⟨rfl, by simp, fun _ => ⟨_, rfl, fun j p hj => ?_⟩⟩
    have hj0 : j < 2 := (List.getElem?_eq_some_iff.1 hj).1
    rcases (by omega : j = 0 ∨ j = 1) with rfl | rfl
    · obtain rfl := Option.some.inj hj
      refine ⟨_, rfl, rfl, fun i u hu => ?_⟩
      rw [add_plain, cell_of_row w g _ _ 49 fz h]
      have hi : i < 6 := (List.getElem?_eq_some_iff.1 hu).1
      rw [← hu]
      rcases (by omega : i = 0 ∨ i = 1 ∨ i = 2 ∨ i = 3 ∨ i = 4 ∨ i = 5) with rfl | rfl | rfl | rfl | rfl | rfl <;> rfl
    · obtain rfl := Option.some.inj hj
      refine ⟨_, rfl, rfl, fun i u hu => ?_⟩
      rw [add_plain, cell_of_row w g _ _ 49 fz h]
      have hi : i < 6 := (List.getElem?_eq_some_iff.1 hu).1
      rw [← hu]
      rcases (by omega : i = 0 ∨ i = 1 ∨ i = 2 ∨ i = 3 ∨ i = 4 ∨ i = 5) with rfl | rfl | rfl | rfl | rfl | rfl <;> rfl
  have h2 : BAt w ⟨none, 0, 0⟩ [] := ⟨rfl, Nat.le_refl _, ⟨rfl, Nat.zero_le _, fun h => absurd h (by simp)⟩⟩
  exact C_shut (zs := [((⟨cA.f0, ⟨none, 0, 0⟩, false⟩ : Ch), cA), (⟨cB.f0, ⟨none, 0, 0⟩, false⟩, cB)]) h1 (fun z hz => by
    simp only [List.mem_cons, List.not_mem_nil, or_false] at hz
    rcases hz with rfl | rfl
    · exact ⟨rfl, rfl, h2⟩
    · exact ⟨rfl, rfl, h2⟩)
set_option maxHeartbeats 4000000 in
set_option maxRecDepth 100000 in
theorem alive11 (w : World) : Calls Tryz.prog 16 #[] w fun e w' => e = .returned (.bool true) ∧ Below w.heap.size w w' := by
  have HOF : zA (∀ (X : World) (g : Nat), X.heap[g]? = some (.cells #[.string sA, .string sF, .string sE, .int .u64 0, .slice none 0 0, .bool false, .string sB, .string sF, .string sE, .int .u64 0, .slice none 0 0, .bool false] 49 (0, 0)) → Calls Tryz.prog 40 #[.string ⟨#[]⟩, .string ⟨#[]⟩, .slice (some ⟨g, 0, none⟩) 2 2] X fun e w' => ∃ p, e = .returned (.tuple #[.pointer (some ⟨p, 0, none⟩), .int .i64 0]) ∧ TabAt (fun k => X.heap.size ≤ k ∧ k ≠ p) w' p sE sE [cA, cB] ∧ Below X.heap.size X w') := ⟨fun X g hg => by
    refine (tof_any sE sE [cA, cB] (some ⟨g, 0, none⟩) 2 X (C_two hg) (by decide) (fun x hx => by
      simp only [List.mem_cons, List.not_mem_nil, or_false] at hx
      rcases hx with rfl | rfl <;> exact ⟨by decide, by decide⟩)).mono ?_
    rintro e w' ⟨h1, _, h3⟩
    obtain ⟨p, e1, _, h4⟩ := h1 alive_of
    rw [alive_put] at h4
    exact ⟨p, e1, h4, h3⟩⟩
  go_enter Tryz.func16, Tryz.ntmps16
  go_wp2_with fail
  refine (HOF.out _ w.heap.size (heap_alloc_new _ _)).mono ?_
  rintro e w2 ⟨p, rfl, htab, hb⟩
  have HB2 : zA (Below w.heap.size w w2) := ⟨(zAa (Below.refl _ _) _).trans (hb.mono (by simp))⟩
  have HT2 := zA.mk htab
  clear hb htab HOF
  have HMID := zA.mk (middle_any _ w2 p sE sE [cA, cB] HT2.out alive_tab.ok (by decide))
  rw [alive_mid.1, alive_mid.2] at HMID
  go_wp2_with fail
  refine HMID.out.mono ?_
  rintro e w3 ⟨rfl, hb⟩
  have HB3 : zA (Below w.heap.size w w3) := ⟨HB2.out.trans (hb.mono HB2.out.size)⟩
  have HT3 := zA.mk (HT2.out.keep hb)
  clear hb HT2 HB2 HMID
  have HCUT : zA (Calls Tryz.prog 17 #[.pointer (some ⟨p, 0, none⟩), .string ⟨#[98]⟩] w3 fun e w' => ∃ (q r : Nat) (ok1 ok2 : Nat → Prop), e = .returned (.tuple #[.pointer (some ⟨q, 0, none⟩), .pointer (some ⟨r, 0, none⟩), .int .i64 0]) ∧ TabAt ok1 w' q sE sB [cA] ∧ TabAt ok2 w' r sB sE [cB] ∧ Below w3.heap.size w3 w') := ⟨by
    refine (split_tab _ w3 p sE sE [cA, cB] HT3.out alive_tab sB).mono ?_
    rintro e w' ⟨h1, _, h3⟩
    obtain ⟨q, r, e1, _, _, h4, h5⟩ := h1 alive_cut
    rw [alive_lo] at h4
    rw [alive_hi] at h5
    exact ⟨q, r, _, _, e1, h4, h5, h3⟩⟩
  go_wp2_with fail
  refine HCUT.out.mono ?_
  rintro e w4 ⟨q, r, ok1, ok2, rfl, hq, hr, hb⟩
  have HB4 : zA (Below w.heap.size w w4) := ⟨HB3.out.trans (hb.mono HB3.out.size)⟩
  have HQ4 := zA.mk hq
  have HR4 := zA.mk hr
  clear hq hr hb HB3 HT3 HCUT
  have HQA : zA (Calls Tryz.prog 24 #[.pointer (some ⟨q, 0, none⟩)] w4 fun e w' => ∃ A c, e = .returned (.slice A 1 c) ∧ Below w4.heap.size w4 w') := ⟨by
    refine (zG ok1 w4 q sE sB [cA] HQ4.out (by have h9 := alive_tab.ok.filter (fun x => ltS x.f0.f0 sB); rw [show [cA, cB].filter (fun x => ltS x.f0.f0 sB) = [cA] from alive_lo] at h9; exact h9) (by decide)).mono ?_
    rintro e w' ⟨v, rfl, hr, hb⟩
    obtain ⟨A, c, e2⟩ := Kd.zAk hr
    exact ⟨A, c, by rw [e2]; rfl, hb⟩⟩
  have HRA : zA (∀ X, Below w4.heap.size w4 X → Calls Tryz.prog 24 #[.pointer (some ⟨r, 0, none⟩)] X fun e w' => ∃ A c, e = .returned (.slice A 1 c) ∧ Below X.heap.size X w') := ⟨fun X hX => by
    refine (zG ok2 X r sB sE [cB] (HR4.out.keep hX) (by have h9 := alive_tab.ok.filter (fun x => !ltS x.f0.f0 sB); rw [show [cA, cB].filter (fun x => !ltS x.f0.f0 sB) = [cB] from alive_hi] at h9; exact h9) (by decide)).mono ?_
    rintro e w' ⟨v, rfl, hr, hb⟩
    obtain ⟨A, c, e2⟩ := Kd.zAk hr
    exact ⟨A, c, by rw [e2]; rfl, hb⟩⟩
  unfold sB at *
  go_wp2_with fail
  refine HQA.out.mono ?_
  rintro e w5 ⟨A5, c5, rfl, hb5⟩
  have HB5 := zA.mk hb5
  clear hb5 HQA
  go_wp2_with fail
  refine (HRA.out _ HB5.out).mono ?_
  rintro e w6 ⟨A6, c6, rfl, hb6⟩
  have HB6 : zA (Below w.heap.size w w6) := ⟨HB4.out.trans ((HB5.out.trans (hb6.mono HB5.out.size)).mono HB4.out.size)⟩
  clear hb6 HRA
  go_wp2_with fail
  go_ret
  exact ⟨rfl, HB6.out⟩
end Go.Proofs.YtpckachmleonlaaGreatDoor
end
section
set_option linter.unusedVariables false
set_option linter.unusedSimpArgs false
namespace Go.Proofs.YtpckachmleonlaaGreatDoor
open Go.RowKit Go.Proofs.YtpckachmleonlaaGreatDoorW.PrintWords
open PSplitCuts (cutR)
theorem made_tab {a b : ByteArray} {l : List CellM} (h : madeB a b l = true) (ht : ∀ x ∈ l, TimeOk x) : TabL a b (zDi l) := by
  unfold madeB at h
  simp only [Bool.and_eq_true, decide_eq_true_eq] at h
  exact (TabL.of ht h.2).1
theorem cut_some {a b s : ByteArray} (h : splitK a b s = 0) : ltS a s = true ∧ s.size ≤ 32 ∧ s.size ≠ 0 ∧ (b.size = 0 ∨ ltS s b = true) := by
  unfold splitK at h
  split at h
  · omega
  rename_i h1
  split at h
  · omega
  rename_i h2
  refine ⟨?_, by omega, by omega, ?_⟩
  · cases h3 : ltS a s with
    | true => rfl
    | false => exact absurd (.inl h3) h2
  · by_cases h4 : b.size = 0
    · exact .inl h4
    · cases h3 : ltS s b with
      | true => exact .inr rfl
      | false => exact absurd (.inr ⟨h4, h3⟩) h2
end Go.Proofs.YtpckachmleonlaaGreatDoor
end
section
set_option linter.unusedVariables false
set_option linter.unusedSimpArgs false
namespace Go.Proofs.YtpckachmleonlaaGreatDoor
open Go.RowKit Go.Proofs.YtpckachmleonlaaGreatDoorW.PrintWords
set_option maxHeartbeats 1000000 in
theorem growH_nil (n : Nat) (w : World) (hn : n ≤ 1000000) :
    Calls Tryz.prog 94 #[.slice none 0 0, .int .i64 n] w fun e w' => ∃ v, e = .returned v ∧ Kd.R kH 49 w' w.heap.size (fun _ => True) v [] ∧ Below w.heap.size w w' := by
  rcases Nat.eq_zero_or_pos n with h0 | h0
  · subst h0
    go_enter Tryz.func94, Tryz.ntmps94
    go_wp2_with fail
    go_ret
    exact ⟨_, rfl, Kd.R_nil _ _ _ _ _, Below.refl _ _⟩
  · have h1 : (0 : Int) < (n : Int) := by omega
    have hto : ((n : Int)).toNat = n := by omega
    go_enter Tryz.func94, Tryz.ntmps94
    go_wp2_with (at_builtin; refine Kd.R_append_zeros kH (w0 := w) w.heap.size rfl (.tmp 20) (.tmp 21) 22 3 49 (zDe) 88 rfl Tryz.underlying22 Tryz.underlying3 zEi rfl (by decide) (by omega) (.slice none 0 0) [] ⟨⟨⟨#[]⟩, ⟨#[]⟩, ⟨#[]⟩, 0⟩, ⟨none, 0, 0⟩, false⟩ (n : Int) (fun _ => True) rfl rfl rfl (fun _ _ => trivial) (Kd.R_nil _ _ _ _ _) (by omega) (Below.refl _ _) (Nat.le_refl _) (by simp; omega) ?_; intro v1 w2 ho hb _ _; have HO := zA.mk ho; have HB := zA.mk hb; clear ho hb; obtain ⟨A, c1, e1⟩ := Kd.zAk HO.out; subst e1)
    go_ret
    exact ⟨_, rfl, Kd.R_take (m := 0) HO.out (by omega), HB.out⟩
set_option maxHeartbeats 1000000 in
theorem concatH_any (A : Option Addr) (c : Nat) (l : List (List (Ch))) (w : World) (hr : Kd.C (Kd.slice 49 kH) w A l.length l) (hl : l.length ≤ 1000) (ht : l.flatten.length ≤ 1000000) :
    Calls Tryz.prog 58 #[.slice A l.length c] w fun e w' => ∃ v, e = .returned v ∧ Kd.R kH 49 w' w.heap.size (fun _ => True) v l.flatten ∧ Below w.heap.size w w' := by
  have HR := zA.mk hr
  obtain ⟨n, hn⟩ : ∃ n, l.length = n := ⟨_, rfl⟩
  have HN := zA.mk hn
  obtain ⟨m, hm⟩ : ∃ m, l.flatten.length = m := ⟨_, rfl⟩
  have HM := zA.mk hm
  rw [hn] at hl HR ⊢
  rw [hm] at ht
  clear hr hn hm
  go_enter Tryz.func58, Tryz.ntmps58
  go_wp2_with fail
  go_loop [3, 11] (fun vs vi => ∃ i s : Nat, i ≤ n ∧ s ≤ m ∧ vi = .int .i64 i ∧ vs = .int .i64 s ∧ zA ((fltG l i).length = s)) (fun _ vi => n - (intOf vi).toNat)
  case atStart => exact ⟨0, 0, by omega, by omega, rfl, rfl, ⟨rfl⟩⟩
  case round =>
    obtain ⟨i, s, hi, hs, rfl, rfl, HS⟩ := hrel
    by_cases hlt : i < n
    · obtain ⟨ad, A0, c0, rfl, hb, h1, h2, h3⟩ := rowG HR.out i hlt
      have h4 : (i : Int) < n := by omega
      have hle : s + (rd_G l i).length ≤ m := by
        have h5 := fltG_le l (i + 1)
        rw [zEb (by rw [HN.out]; exact hlt), HM.out, List.length_append, HS.out] at h5
        exact h5
      have h6 : ¬ ((s : Int) + ((rd_G l i).length : Int) < 0) := by omega
      have h7 : decide ((s : Int) + ((rd_G l i).length : Int) < 0) = false := df h6
      clear h3
      go_wp2_with fail
      go_round
      case rel => exact ⟨i + 1, s + (rd_G l i).length, by omega, by omega, by go_num, by go_num, ⟨by rw [zEb (by rw [HN.out]; exact hlt), List.length_append, HS.out]⟩⟩
      case measure => simp [intOf]; omega
    · obtain rfl : i = n := by omega
      have hsm : s = m := by rw [← HS.out, ← HM.out]; unfold fltG; rw [List.take_of_length_le (by rw [HN.out]; exact Nat.le_refl _)]
      subst hsm
      go_wp2_with fail
      refine (growH_nil s w (by omega)).mono ?_
      rintro e w1 ⟨v, rfl, hr, hb⟩
      have HG := zA.mk hr
      have HB := zA.mk hb
      clear hr hb
      obtain ⟨A1, c1, e1⟩ := Kd.zAk HG.out
      subst e1
      go_wp2_with fail
      go_loopw [6, 27] (fun vv vj w' => ∃ j : Nat, j ≤ i ∧ vj = .int .i64 j ∧ zA (Kd.R kH 49 w' w.heap.size (fun _ => True) vv (fltG l j)) ∧ zA (Below w.heap.size w w')) (fun _ vj _ => i - (intOf vj).toNat)
      case atStart => exact ⟨0, by omega, rfl, HG, HB⟩
      case round =>
        obtain ⟨j, hj, rfl, HV, HW⟩ := hrel
        by_cases hjl : j < i
        · obtain ⟨ad, A0, c0, rfl, hb, h1, h2, h3⟩ := rowG (Kd.zBa HR.out HW.out) j hjl
          have h4 : (j : Int) < i := by omega
          have HC := zA.mk h3
          have HL : zA ((fltG l j).length + (rd_G l j).length ≤ 1000000) := ⟨by
            have h5 := fltG_le l (j + 1)
            rw [zEb (by rw [HN.out]; exact hjl), HM.out, List.length_append] at h5
            omega⟩
          clear h3
          obtain ⟨A2, c2, e2⟩ := Kd.zAk HV.out
          subst e2
          go_wp2_with (at_builtin; refine Kd.zDd kH (w0 := w) w.heap.size rfl (.tmp 31) (.tmp 32) 22 49 (zDe) 88 rfl Tryz.underlying22 zEi rfl (by decide) (by omega) (.slice A2 (fltG l j).length c2) (fltG l j) (rd_G l j) A0 (rd_G l j).length c0 (fun _ => True) (fun _ => False) rfl rfl HV.out HC.out (fun x cs h => h) (fun _ hk => hk.elim) (fun _ _ => trivial) HW.out HW.out.size (by have := HL.out; omega) ?_; intro v1 w2 ho hb _ _)
          rw [← zEb (by rw [HN.out]; exact hjl)] at ho
          have HO := zA.mk ho
          have HB2 := zA.mk hb
          clear ho hb
          go_roundw
          case rel => exact ⟨j + 1, by omega, by go_num, HO, HB2⟩
          case measure => simp [intOf]; omega
        · obtain rfl : j = i := by omega
          have HF : zA (fltG l j = l.flatten) := ⟨by unfold fltG; rw [List.take_of_length_le (by rw [HN.out]; exact Nat.le_refl _)]⟩
          go_wp2_with fail
          go_ret
          exact ⟨_, rfl, HF.out ▸ HV.out, HW.out⟩
end Go.Proofs.YtpckachmleonlaaGreatDoor
end
section
set_option linter.unusedVariables false
set_option linter.unusedSimpArgs false
namespace Go.Proofs.YtpckachmleonlaaGreatDoor
open Go.RowKit Go.Proofs.YtpckachmleonlaaGreatDoorW.PrintWords
def zDg (b a2 : ByteArray) (c1 c2 : List CellM) : Int := if b.size = 0 ∨ b ≠ a2 then 1 else if 32 < (c1 ++ c2).length then 9 else 0
def MergePost (a b a2 b2 : ByteArray) (c1 c2 : List CellM) (w : World) (e : Ending) (w' : World) : Prop :=
  ∃ po : Option Addr, e = .returned (.tuple #[.pointer po, .int .i64 (zDg b a2 c1 c2)]) ∧ (zDg b a2 c1 c2 = 0 → ∃ r ok, po = some ⟨r, 0, none⟩ ∧ TabAt ok w' r a b2 (c1 ++ c2)) ∧ (zDg b a2 c1 c2 ≠ 0 → po = none) ∧ Below w.heap.size w w'
theorem mergePost_no {a b a2 b2 : ByteArray} {c1 c2 : List CellM} {w w' : World} {i : Int} (h : zDg b a2 c1 c2 = i) (hi : i ≠ 0) (hb : Below w.heap.size w w') : MergePost a b a2 b2 c1 c2 w (.returned (.tuple #[.pointer none, .int .i64 i])) w' :=
  ⟨none, by rw [h], fun h0 => absurd (h.symm.trans h0) hi, fun _ => rfl, hb⟩
theorem C_pair {w : World} {g : Nat} {e t : TypeId} {α : Type} {d : Kd α} {A B : Option Addr} {n m c k : Nat} {xs ys : List α} {fz : Nat × Nat} (h : w.heap[g]? = some (.cells #[.slice A n c, .slice B m k] t fz)) (h1 : d.C w A n xs) (h2 : d.C w B m ys) (hn : n = xs.length) (hm : m = ys.length) (hc : n ≤ c) (hk : m ≤ k) :
    Kd.C (Kd.slice e d) w (some ⟨g, 0, none⟩) 2 [xs, ys] := by
  subst hn hm
  refine ⟨rfl, by simp, fun _ => ⟨⟨g, 0, none⟩, rfl, fun j p hj => ?_⟩⟩
  have hj0 : j < 2 := (List.getElem?_eq_some_iff.1 hj).1
  rcases (by omega : j = 0 ∨ j = 1) with rfl | rfl
  · obtain rfl := Option.some.inj hj
    refine ⟨[.slice A xs.length c], rfl, ⟨A, c, rfl, hc, h1⟩, fun i u hu => ?_⟩
    have hi : i < 1 := (List.getElem?_eq_some_iff.1 hu).1
    rw [add_plain, cell_of_row w g _ _ t fz h, ← hu]
    obtain rfl : i = 0 := by omega
    rfl
  · obtain rfl := Option.some.inj hj
    refine ⟨[.slice B ys.length k], rfl, ⟨B, k, rfl, hk, h2⟩, fun i u hu => ?_⟩
    have hi : i < 1 := (List.getElem?_eq_some_iff.1 hu).1
    rw [add_plain, cell_of_row w g _ _ t fz h, ← hu]
    obtain rfl : i = 0 := by omega
    rfl
theorem str_ne (x y : ByteArray) : (x.toList == y.toList) = decide (x = y) := by
  by_cases h : x = y
  · subst h
    simp
  · have : ¬ x.toList = y.toList := fun e => h (ba_eq.1 e)
    simp [h, this]
set_option maxHeartbeats 4000000 in
set_option maxRecDepth 100000 in
theorem merge_tab (ok1 ok2 : Nat → Prop) (w : World) (p q : Nat) (a b a2 b2 : ByteArray) (c1 c2 : List CellM) (h1 : TabAt ok1 w p a b c1) (h2 : TabAt ok2 w q a2 b2 c2) (t1 : TabL a b c1) (t2 : TabL a2 b2 c2) :
    Calls Tryz.prog 22 #[.pointer (some ⟨p, 0, none⟩), .pointer (some ⟨q, 0, none⟩)] w fun e w' => MergePost a b a2 b2 c1 c2 w e w' := by
  have H1 := zA.mk h1
  have H2 := zA.mk h2
  have HT := zA.mk (And.intro t1 t2)
  clear h1 h2 t1 t2
  go_enter Tryz.func22, Tryz.ntmps22
  go_wp2_with fail
  refine (bounds_any ok1 w p a b c1 H1.out).mono ?_
  rintro e w1 ⟨rfl, m, hm⟩
  have HB1 : zA (Below w.heap.size w w1) := ⟨by rw [hm]; exact zAc (Below.refl _ _) _⟩
  clear hm
  go_wp2_with fail
  refine (bounds_any ok2 w1 q a2 b2 c2 (H2.out.keep HB1.out)).mono ?_
  rintro e w2 ⟨rfl, m, hm⟩
  have HB2 : zA (Below w.heap.size w w2) := ⟨by rw [hm]; exact zAc HB1.out _⟩
  clear hm HB1
  rcases Bool.eq_false_or_eq_true b.toList.isEmpty with he | he
  · have HNO : zA (zDg b a2 c1 c2 = 1) := ⟨by unfold zDg; rw [if_pos (.inl (Cp.size_zero he))]⟩
    go_wp2_with fail
    go_ret2
    exact mergePost_no HNO.out (by decide) HB2.out
  have HSZ : zA (b.size ≠ 0) := ⟨by have := Cp.size_pos he; omega⟩
  by_cases hab : b = a2
  case neg =>
    have HNO : zA (zDg b a2 c1 c2 = 1) := ⟨by unfold zDg; rw [if_pos (.inr hab)]⟩
    have e1 : (b.toList == a2.toList) = false := by rw [str_ne]; exact decide_eq_false hab
    clear hab
    go_wp2_with fail
    go_ret2
    exact mergePost_no HNO.out (by decide) HB2.out
  subst hab
  have HCAT := zA.mk (TabL.cat HT.out.1 HT.out.2 HSZ.out)
  have HMK : zA (zDg b b c1 c2 = if 32 < (c1 ++ c2).length then 9 else 0) := ⟨by unfold zDg; rw [if_neg (by simp [HSZ.out])]⟩
  have e1 : (b.toList == b.toList) = true := by simp
  go_wp2_with fail
  refine (zG ok1 w2 p a b c1 (H1.out.keep HB2.out) HT.out.1.ok (by have := HT.out.1.len; omega)).mono ?_
  rintro e w3 ⟨v, rfl, hr, hb⟩
  obtain ⟨A1, k1, rfl, hk1, hr3⟩ := Kd.zEg hr
  have HR3 := zA.mk (And.intro hk1 hr3)
  have HB3 : zA (Below w.heap.size w w3) := ⟨HB2.out.trans (hb.mono HB2.out.size)⟩
  clear hr hb hk1 hr3
  obtain ⟨n1, hn1⟩ : ∃ n, c1.length = n := ⟨_, rfl⟩
  have HN1 := zA.mk hn1
  rw [hn1] at HR3 ⊢
  clear hn1
  go_wp2_with fail
  refine (zG ok2 w3 q b b2 c2 (H2.out.keep HB3.out) HT.out.2.ok (by have := HT.out.2.len; omega)).mono ?_
  rintro e w4 ⟨v2, rfl, hr, hb⟩
  obtain ⟨A2, k2, rfl, hk2, hr4⟩ := Kd.zEg hr
  obtain ⟨n2, hn2⟩ : ∃ n, c2.length = n := ⟨_, rfl⟩
  have HN2 := zA.mk hn2
  rw [hn2] at hk2 hr4 ⊢
  have HB4 : zA (Below w.heap.size w w4) := ⟨HB3.out.trans (hb.mono HB3.out.size)⟩
  have HR4 := zA.mk (And.intro hk2 hr4)
  have HR3' : zA (n1 ≤ k1 ∧ kC.C w4 A1 n1 c1) := ⟨HR3.out.1, Kd.zBa HR3.out.2 hb⟩
  clear hr hb hk2 hr4 hn2 HR3
  have HB5 : zA (Below w4.heap.size w4 (w4.alloc (.cells #[.slice A1 n1 k1, .slice A2 n2 k2] 22))) := ⟨zAa (Below.refl _ _) _⟩
  have HG5 : zA ((w4.alloc (.cells #[.slice A1 n1 k1, .slice A2 n2 k2] 22)).heap[w4.heap.size]? = some (.cells #[.slice A1 n1 k1, .slice A2 n2 k2] 22 (0, 0))) := ⟨heap_alloc_new _ _⟩
  obtain ⟨z1, ez1, hz1, hc1⟩ := C_open HR3'.out.2
  obtain ⟨z2, ez2, hz2, hc2⟩ := C_open HR4.out.2
  have HL1 : zA (n1 = (z1.map (·.1)).length ∧ n2 = (z2.map (·.1)).length) := ⟨by rw [List.length_map, ← HN1.out, ← ez1, List.length_map], by rw [List.length_map, ← HN2.out, ← ez2, List.length_map]⟩
  have HSZ2 : zA (n1 ≤ 32 ∧ n2 ≤ 32) := ⟨by have := HT.out.1.len; have := HN1.out; omega, by have := HT.out.2.len; have := HN2.out; omega⟩
  have hcc := concatH_any (some ⟨w4.heap.size, 0, none⟩) 2 [z1.map (·.1), z2.map (·.1)] _ (C_pair (e := 49) HG5.out (Kd.zBa hz1 HB5.out) (Kd.zBa hz2 HB5.out) HL1.out.1 HL1.out.2 HR3'.out.1 HR4.out.1) (by simp) (by
    rw [List.flatten_cons, List.flatten_cons, List.flatten_nil, List.append_nil, List.length_append, ← HL1.out.1, ← HL1.out.2]
    have := HSZ2.out
    omega)
  have HCC := zA.mk hcc
  have HZ := zA.mk (And.intro ez1 (And.intro ez2 (And.intro hc1 hc2)))
  clear hcc ez1 ez2 hz1 hz2 hc1 hc2
  go_wp2_with fail
  refine HCC.out.mono ?_
  rintro e w6 ⟨v, rfl, hr, hb⟩
  have hr2 : Kd.R kH 49 w6 (w4.alloc (.cells #[.slice A1 n1 k1, .slice A2 n2 k2] 22)).heap.size (fun _ => True) v ((z1 ++ z2).map (·.1)) := by simpa only [List.flatten_cons, List.flatten_nil, List.append_nil, List.map_append] using hr
  obtain ⟨A3, k3, rfl, hk3, hr6⟩ := Kd.zEg hr2
  have HB6 : zA (Below w.heap.size w w6) := ⟨HB4.out.trans ((HB5.out.trans (hb.mono HB5.out.size)).mono HB4.out.size)⟩
  have HB46 : zA (Below w4.heap.size w4 w6) := ⟨HB5.out.trans (hb.mono HB5.out.size)⟩
  have e2 : (z1 ++ z2).map (·.2) = c1 ++ c2 := by rw [List.map_append, HZ.out.1, HZ.out.2.1]
  have hlen : ((z1 ++ z2).map (·.1)).length = (c1 ++ c2).length := by rw [List.length_map, ← e2, List.length_map]
  have hcs := C_shut (zs := z1 ++ z2) hr6 (fun z hz => by
      rcases List.mem_append.1 hz with hz | hz
      · exact (HZ.out.2.2.1 z hz).keep HB46.out
      · exact (HZ.out.2.2.2 z hz).keep HB46.out)
  rw [e2, hlen] at hcs
  rw [hlen]
  clear hr2 e2
  have HOF := zA.mk (tof_any a b2 (c1 ++ c2) A3 k3 w6 hcs (by rw [List.length_append]; have := HT.out.1.len; have := HT.out.2.len; omega) (fun x hx => by
    rcases List.mem_append.1 hx with hx | hx
    · exact okC_time (HT.out.1.ok.ok x hx)
    · exact okC_time (HT.out.2.ok.ok x hx)))
  obtain ⟨n, hn⟩ : ∃ n, (c1 ++ c2).length = n := ⟨_, rfl⟩
  rw [hn] at HOF ⊢
  clear hr hb hk3 hr6 hcs hlen hn HCC
  go_wp2_with fail
  refine HOF.out.mono ?_
  rintro e w7 ⟨hy, hno, hb⟩
  have HB7 : zA (Below w.heap.size w w7) := ⟨HB6.out.trans (hb.mono HB6.out.size)⟩
  have HKK : zA (ofK a b2 (c1 ++ c2) = zDg b b c1 c2) := ⟨by rw [HMK.out, HCAT.out.1]⟩
  have hall : ∃ po : Option Addr, e = .returned (.tuple #[.pointer po, .int .i64 (zDg b b c1 c2)]) ∧ (zDg b b c1 c2 = 0 → ∃ r ok, po = some ⟨r, 0, none⟩ ∧ TabAt ok w7 r a b2 (c1 ++ c2)) ∧ (zDg b b c1 c2 ≠ 0 → po = none) := by
    by_cases h0 : ofK a b2 (c1 ++ c2) = 0
    · obtain ⟨r, e1, _, h3⟩ := hy h0
      rw [HCAT.out.2] at h3
      exact ⟨_, by rw [e1, ← HKK.out, h0], fun _ => ⟨r, _, rfl, h3⟩, fun h => absurd (HKK.out.symm.trans h0) h⟩
    · exact ⟨none, by rw [hno h0, HKK.out], fun h => absurd (HKK.out.trans h) h0, fun _ => rfl⟩
  obtain ⟨po, rfl, g1, g2⟩ := hall
  have HP := zA.mk (And.intro g1 g2)
  obtain ⟨mk, hmk⟩ : ∃ k, zDg b b c1 c2 = k := ⟨_, rfl⟩
  have HMM := zA.mk hmk
  rw [hmk]
  clear hy hno hb g1 g2 HOF hmk
  go_wp2_with fail
  go_ret2
  exact ⟨po, by rw [HMM.out]; rfl, HP.out.1, HP.out.2, HB7.out⟩
set_option maxHeartbeats 4000000 in
set_option maxRecDepth 100000 in
theorem merge_nil (ok : Nat → Prop) (w : World) (q : Nat) (a b : ByteArray) (cs : List CellM) (h : TabAt ok w q a b cs) :
    Calls Tryz.prog 22 #[.pointer none, .pointer (some ⟨q, 0, none⟩)] w fun e w' => e = .returned (.tuple #[.pointer none, .int .i64 17]) ∧ Below w.heap.size w w' := by
  have H := zA.mk h
  clear h
  go_enter Tryz.func22, Tryz.ntmps22
  go_wp2_with fail
  refine (bounds_nil w).mono ?_
  rintro e w1 ⟨rfl, e2⟩
  have e3 := e2.symm
  subst e3
  clear e2
  go_wp2_with fail
  refine (bounds_any ok _ q a b cs H.out).mono ?_
  rintro e w2 ⟨rfl, m, hm⟩
  have HB2 := zA.mk (show Below w.heap.size w w2 by rw [hm]; exact zAc (Below.refl _ _) _)
  clear hm
  go_wp2_with fail
  go_ret2
  exact ⟨rfl, HB2.out⟩
set_option maxHeartbeats 4000000 in
set_option maxRecDepth 100000 in
theorem split_nil (w : World) (s : ByteArray) :
    Calls Tryz.prog 17 #[.pointer none, .string s] w fun e w' => e = .returned (.tuple #[.pointer none, .pointer none, .int .i64 17]) ∧ Below w.heap.size w w' := by
  have HB1 : zA (Below w.heap.size w ((w.alloc (.cells #[.pointer none] 23)).alloc (.cells #[.string s] 9))) := ⟨zAa (zAa (Below.refl _ _) _) _⟩
  have HG1 : zA (((w.alloc (.cells #[.pointer none] 23)).alloc (.cells #[.string s] 9)).heap[w.heap.size]? = some (.cells #[.pointer none] 23 (0, 0))) := ⟨zAh (heap_alloc_new _ _) _⟩
  go_enter Tryz.func17, Tryz.ntmps17
  go_wp2_with fail
  refine (bounds_nil _).mono ?_
  rintro e w2 ⟨rfl, e2⟩
  have e3 := e2.symm
  subst e3
  clear e2
  generalize (w.alloc (.cells #[.pointer none] 23)).alloc (.cells #[.string s] 9) = w2 at HB1 HG1 ⊢
  have g0 := (zAb HG1.out 0).trans (rfl : _ = some (Value.pointer none))
  have hlg := zAi HG1.out
  go_wp2_with fail
  go_ret3
  exact ⟨rfl, HB1.out⟩
end Go.Proofs.YtpckachmleonlaaGreatDoor
end
