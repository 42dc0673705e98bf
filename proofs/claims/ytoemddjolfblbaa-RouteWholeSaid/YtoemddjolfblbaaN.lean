/- Rows of parts as cells; slices.Clone of parts: a new row of the same. -/
import Derived.Test.YtoemddjolfblbaaM
/- Rows of parts as cells; slices.Clone. -/
set_option linter.unusedVariables false
set_option linter.unusedSimpArgs false
namespace Go.Proofs.Ytoemddjolfblbaa
open Go.RowKit Go.Proofs.YtoemddjolfblbaaW.PrintWords

def cellsP (p : Part) : List Value := [.string p.from_, .string p.to_, .int .u64 p.group]
def flatP (l : List Part) : List Value := l.flatMap cellsP
theorem flatP_length (l : List Part) : (flatP l).length = l.length * 3 := by
  induction l with
  | nil => rfl
  | cons p l ih => rw [flatP, List.flatMap_cons, List.length_append, List.length_cons]; change 3 + (flatP l).length = _; omega
theorem flatP_append (a b : List Part) : flatP (a ++ b) = flatP a ++ flatP b := List.flatMap_append
theorem flatP_take (l : List Part) (k : Nat) : (flatP l).take (k * 3) = flatP (l.take k) := by
  rcases Nat.lt_or_ge k l.length with h | h
  · conv => lhs; rw [← List.take_append_drop k l, flatP_append]
    rw [List.take_left' (by rw [flatP_length, List.length_take]; omega)]
  · rw [List.take_of_length_le (by rw [flatP_length]; omega), List.take_of_length_le h]
theorem flatP_drop (l : List Part) (k : Nat) : (flatP l).drop (k * 3) = flatP (l.drop k) := by
  rcases Nat.lt_or_ge k l.length with h | h
  · conv => lhs; rw [← List.take_append_drop k l, flatP_append]
    rw [List.drop_left' (by rw [flatP_length, List.length_take]; omega)]
  · rw [List.drop_eq_nil_of_le (by rw [flatP_length]; omega), List.drop_eq_nil_of_le h]
    rfl
theorem flatP_one (l : List Part) : ∀ u ∈ flatP l, u.oneCell' = true := by
  intro u hu
  obtain ⟨p, _, hp⟩ := List.mem_flatMap.1 hu
  simp only [cellsP, List.mem_cons, List.not_mem_nil, or_false] at hp
  rcases hp with rfl | rfl | rfl <;> rfl
theorem flatP_get (l : List Part) (k j : Nat) (hk : k < l.length) (hj : j < 3) : (flatP l)[k * 3 + j]? = (cellsP (pat l k))[j]? := by
  rw [← List.getElem?_drop, flatP_drop, List.drop_eq_getElem_cons hk]
  have e : l[k] = pat l k := by simp [pat, List.getD_eq_getElem?_getD, List.getElem?_eq_getElem hk]
  rw [e]
  change (cellsP (pat l k) ++ flatP _)[j]? = _
  rw [List.getElem?_append_left (by exact hj)]
theorem reps_flat (w : World) (base : Nat) (ok : Nat → Prop) (l : List Part) : Reps (kP.M w base ok) 3 l (flatP l) := by
  refine ⟨flatP_length l, fun j p hj => ?_⟩
  obtain ⟨hl, rfl⟩ := List.getElem?_eq_some_iff.1 hj
  rw [flatP_drop, List.drop_eq_getElem_cons hl]
  exact kP_mkM w base ok l[j]
theorem kP_openM {w : World} {base : Nat} {ok : Nat → Prop} {x : Part} {cs : List Value} (h : kP.M w base ok x cs) : cs = [.string x.from_, .string x.to_, .int .u64 x.group] := kP_open (kP.K_of_M h)
theorem flat_of_reps {w : World} {base : Nat} {ok : Nat → Prop} : ∀ {l : List Part} {cs : List Value}, Reps (kP.M w base ok) 3 l cs → cs = flatP l
  | [], cs, h => List.eq_nil_of_length_eq_zero (by rw [h.1]; rfl)
  | p :: l, cs, h => by
    have h0 := kP_openM (h.2 0 p rfl)
    rw [Nat.zero_mul, List.drop_zero] at h0
    have h1 : Reps (kP.M w base ok) 3 l (cs.drop 3) := by
      refine ⟨by rw [List.length_drop, h.1, List.length_cons]; omega, fun j q hj => ?_⟩
      have := h.2 (j + 1) q (by simpa using hj)
      rwa [Nat.add_mul, Nat.one_mul, Nat.add_comm, ← List.drop_drop] at this
    have h2 := flat_of_reps h1
    rw [← List.take_append_drop 3 cs, h0, h2]
    rfl
theorem R_flat {w : World} {base e : Nat} {ok : Nat → Prop} {v : Value} {l : List Part} (h : Kd.R kP e w base ok v l) : w.ownsRow base e 3 v l.length (flatP l) := by
  obtain ⟨_, inner, ho, hr⟩ := h
  rw [flat_of_reps hr] at ho
  exact ho
theorem R_mk {w : World} {base e : Nat} {v : Value} {l : List Part} (h : w.ownsRow base e 3 v l.length (flatP l)) : Kd.R kP e w base (fun _ => True) v l :=
  ⟨fun _ _ => trivial, flatP l, h, reps_flat _ _ _ _⟩

set_option maxHeartbeats 1000000 in
theorem clone_any (A : Option Addr) (c : Nat) (l : List Part) (w : World) (hr : Kd.C kP w A l.length l) (hl : l.length ≤ 1000) :
    Calls Try.prog 28 #[.slice A l.length c] w fun e w' => ∃ v, e = .returned v ∧ Kd.R kP 27 w' w.heap.size (fun _ => True) v l ∧ Below w.heap.size w w' := by
  have HR := Aside0.mk hr
  cases A with
  | none =>
    have h0 : l = [] := by
      rcases Nat.eq_zero_or_pos l.length with h | h
      · exact List.eq_nil_of_length_eq_zero h
      · obtain ⟨ad, e, _⟩ := hr.2.2 h
        cases e
    subst h0
    have hq := fun w => Lib.run_eql_slice_nil (P := Try.prog) w 30 27 none 0 c 0 0 Try.underlying30
    clear hr
    go_enter Try.func28, Try.ntmps28
    go_wp2
    go_ret
    exact ⟨_, rfl, Kd.R_nil _ _ _ _ _, Below.refl _ _⟩
  | some ad =>
    have hq := fun w => Lib.run_eql_slice_nil (P := Try.prog) w 30 27 (some ad) l.length c 0 0 Try.underlying30
    clear hr
    have HO : Aside0 (kP.R 27 (w.alloc (.cells #[] 27)) w.heap.size (fun _ => True) (.slice (some ⟨w.heap.size, 0, none⟩) 0 0) []) := ⟨R_mk (World.ownsRow_made w #[] 0 (Nat.le_refl _) (by unfold maxLen; omega) rfl)⟩
    have HC : Aside0 (ReadsRow (kP.K w) kP.sz (w.alloc (.cells #[] 27)) (some ad) l.length l) := ⟨ReadsRow.imp_ HR.out ((Below.refl _ _).alloc (Nat.le_refl _) _) (fun _ _ h => h)⟩
    go_enter Try.func28, Try.ntmps28
    go_wp2_with (at_builtin; refine Kd.R_append_rows kP (w0 := w) w.heap.size rfl (.tmp 5) (.tmp 6) 30 27 (.agg #[(.string ⟨#[]⟩), (.string ⟨#[]⟩), (.int .u64 0)]) 40 rfl Try.underlying30 info27 rfl (by decide) (by omega) (.slice (some ⟨w.heap.size, 0, none⟩) 0 0) [] l (some ad) l.length c (fun _ => True) (fun _ => False) rfl rfl HO.out HC.out (fun x cs h => by rw [kP_open h]; exact kP_mkM _ _ _ x) (fun _ hk => hk.elim) (fun _ _ => trivial) ((Below.refl _ _).alloc (Nat.le_refl _) _) (by simp) (by simp; omega) ?_; intro v1 w1 ho hb _ _)
    go_ret
    exact ⟨_, rfl, ho, hb⟩
end Go.Proofs.Ytoemddjolfblbaa
