/- alive: the chapter's example comes out true. -/
import Derived.Test.YtoemddjolfblbaaO
/- alive. -/
set_option linter.unusedVariables false
set_option linter.unusedSimpArgs false
namespace Go.Proofs.Ytoemddjolfblbaa
open Go.RowKit Go.Proofs.YtoemddjolfblbaaW.PrintWords

def one0 : List Part := [⟨⟨#[]⟩, ⟨#[]⟩, 1⟩]
def two0 : List Part := [⟨⟨#[]⟩, ⟨#[109]⟩, 1⟩, ⟨⟨#[109]⟩, ⟨#[]⟩, 2⟩]
theorem split0 : splitK one0 ⟨#[109]⟩ 2 = 0 := by decide +kernel
theorem pl0 : plI one0 ⟨#[109]⟩ = 0 := by decide +kernel
theorem split1 : splitR one0 ⟨#[109]⟩ 2 = two0 := by
  unfold splitR
  rw [split0, if_pos rfl, pl0]
  rfl
theorem right2 : rightB two0 = true := by decide +kernel
theorem find_a : (findL two0 ⟨#[97]⟩).group = 1 := by decide +kernel
theorem find_z : (findL two0 ⟨#[122]⟩).group = 2 := by decide +kernel

set_option maxHeartbeats 2000000 in
set_option maxRecDepth 100000 in
theorem alive_any (w : World) : Calls Try.prog 10 #[] w fun e w' => e = .returned (.bool true) ∧ Below w.heap.size w w' := by
  have HC : Aside0 (Kd.C kP (w.alloc (.cells #[.string ⟨#[]⟩, .string ⟨#[]⟩, .int .u64 1] 27)) (some ⟨w.heap.size, 0, none⟩) one0.length one0) := ⟨by
    obtain ⟨A, c, he, _, hr⟩ := Kd.R_reads (R_mk (l := one0) (World.ownsRow_lit w #[.string ⟨#[]⟩, .string ⟨#[]⟩, .int .u64 1] 1 (Nat.le_refl _) (by unfold maxLen; omega) rfl))
    injection he with h1 h2 h3
    subst h1
    exact hr⟩
  have HB0 : Aside0 (Below w.heap.size w (w.alloc (.cells #[.string ⟨#[]⟩, .string ⟨#[]⟩, .int .u64 1] 27))) := ⟨(Below.refl _ _).alloc (Nat.le_refl _) _⟩
  go_enter Try.func10, Try.ntmps10
  go_wp2_with fail
  refine (split_any (some ⟨w.heap.size, 0, none⟩) 1 one0 ⟨#[109]⟩ 2 _ HC.out (by decide) (by decide) (by decide)).mono ?_
  rintro e w1 ⟨v, rfl, hr, hb⟩
  rw [split0]
  rw [split1] at hr
  obtain ⟨A, c, rfl, hc, hrc⟩ := Kd.R_reads hr
  have HR := Aside0.mk hrc
  have HB1 : Aside0 (Below w.heap.size w w1) := ⟨HB0.out.trans (hb.mono (by simp))⟩
  clear hr hb hrc
  have hc' : 2 ≤ c := hc
  obtain ⟨fa, ta, ga, hfa, rfl⟩ : ∃ f t g, findL two0 ⟨#[97]⟩ = ⟨f, t, g⟩ ∧ g = 1 := ⟨_, _, _, rfl, find_a⟩
  obtain ⟨fz, tz, gz, hfz, rfl⟩ : ∃ f t g, findL two0 ⟨#[122]⟩ = ⟨f, t, g⟩ ∧ g = 2 := ⟨_, _, _, rfl, find_z⟩
  have HFA := Aside0.mk hfa
  have HFZ := Aside0.mk hfz
  clear hfa hfz
  rw [show two0.length = 2 from rfl]
  go_wp2_with fail
  refine (find_any A c two0 ⟨#[97]⟩ _ HR.out hc (by decide)).mono ?_
  rintro e w2 ⟨rfl, hb2⟩
  rw [HFA.out, right2]
  have HB2 := Aside0.mk (HB1.out.trans (hb2.mono HB1.out.size))
  have HR2 := Aside0.mk (Kd.C_below HR.out hb2)
  clear hb2
  unfold Part.val
  go_wp2_with fail
  refine (find_any A c two0 ⟨#[122]⟩ _ (Kd.C_below HR2.out ((Below.refl _ _).alloc (Nat.le_refl _) _)) hc (by decide)).mono ?_
  rintro e w3 ⟨rfl, hb3⟩
  rw [HFZ.out, right2]
  have hb3' : Below (w2.heap.size + 1) (w2.alloc (.cells #[.string fa, .string ta, .int .u64 1] 27)) w3 := by simpa using hb3
  obtain ⟨x0, x1, x2, x3, x4, x5, x6⟩ := box3 hb3'
  have HB3 := Aside0.mk ((HB2.out.alloc HB2.out.size _).trans (hb3'.mono (by have := HB2.out.size; omega)))
  clear hb3 hb3'
  unfold Part.val
  go_wp2_with fail
  go_ret
  exact ⟨rfl, HB3.out.alloc HB3.out.size _⟩
end Go.Proofs.Ytoemddjolfblbaa
