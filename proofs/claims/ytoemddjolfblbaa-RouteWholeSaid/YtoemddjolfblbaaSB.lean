/- slices.Delete of one part, from a row of the call's own. -/
import Derived.Test.YtoemddjolfblbaaO
/- slices.Delete. -/
set_option linter.unusedVariables false
set_option linter.unusedSimpArgs false
namespace Go.Proofs.Ytoemddjolfblbaa
open Go.RowKit Go.Proofs.YtoemddjolfblbaaW.PrintWords

theorem own_some {w : World} {base g n c : Nat} {xs : List Value} (h : w.ownsRow base 27 3 (.slice (some ⟨g, 0, none⟩) n c) n xs) : ∃ cur, OwnAt w base g n c cur ∧ cur.take (n * 3) = xs := by
  rcases h.2 with ⟨h0, _⟩ | ⟨g', cap, cur, hv, h1, h2, h3, h4, h5, h6⟩
  · cases h0
  · injection hv with ha _ hc
    injection ha with ha
    injection ha with hg
    subst hg; subst hc
    exact ⟨cur.toList, ⟨by simpa using h2, by simpa using h5, h3, h4, h1⟩, h6⟩
theorem flatP_set : ∀ (xs : List Part) (k : Nat), k < xs.length → ∀ s : ByteArray, (flatP xs).set (k * 3 + 1) (.string s) = flatP (xs.set k ⟨(pat xs k).from_, s, (pat xs k).group⟩) := by
  intro xs
  induction xs with
  | nil => intro k hk; simp at hk
  | cons x r ih =>
    intro k hk s
    have e : flatP (x :: r) = cellsP x ++ flatP r := rfl
    match k, hk with
    | 0, _ => rfl
    | k + 1, hk =>
      have e2 : (x :: r).set (k + 1) ⟨(pat (x :: r) (k + 1)).from_, s, (pat (x :: r) (k + 1)).group⟩ = x :: r.set k ⟨(pat r k).from_, s, (pat r k).group⟩ := rfl
      have e3 : ∀ y : List Part, flatP (x :: y) = cellsP x ++ flatP y := fun _ => rfl
      rw [e2, e3, e3, ← ih k (by simpa using hk) s, List.set_append_right _ _ (by simp only [cellsP, List.length_cons, List.length_nil]; omega)]
      congr 2
      simp only [cellsP, List.length_cons, List.length_nil]
      omega
/-- A part's end is written, in a row of the call's own. -/
theorem R_to {w : World} {base e g n c k : Nat} {xs : List Part} (h : Kd.R kP e w base (fun _ => True) (.slice (some ⟨g, 0, none⟩) n c) xs) (hk : k < n) (s : ByteArray) :
    w.cell? ⟨g, k * 3 + 1, none⟩ = some (.string (pat xs k).to_) ∧ w.frozen? ⟨g, k * 3 + 1, none⟩ = false ∧ base ≤ g ∧ Kd.R kP e (w.setCell ⟨g, k * 3 + 1, none⟩ (.string s)) base (fun _ => True) (.slice (some ⟨g, 0, none⟩) n c) (xs.set k ⟨(pat xs k).from_, s, (pat xs k).group⟩) := by
  obtain ⟨hn, hnc, _⟩ := Kd.R_reads' h
  subst hn
  have ho := R_flat h
  have hs := (ho.stored (g := g) (k * 3 + 1) (.string s))
  rcases ho.2 with ⟨h0, _⟩ | ⟨g', cap, cur, hv, h1, h2, h3, h4, h5, h6⟩
  · cases h0
  · injection hv with ha _ hc
    injection ha with ha
    injection ha with hg
    subst hg; subst hc
    have hkl : k < xs.length := by omega
    have hx : cur.toList[k * 3 + 1]? = some (.string (pat xs k).to_) := by
      have e1 : (cur.toList.take (xs.length * 3))[k * 3 + 1]? = cur.toList[k * 3 + 1]? := by rw [List.getElem?_take, if_pos (by omega)]
      rw [← e1, h6, flatP_get xs k 1 hkl (by omega)]
      rfl
    refine ⟨?_, blk_frozen h2 _, h1, ?_⟩
    · rw [cell_of_row w g _ cur e (0, 0) h2, ← Array.getElem?_toList]
      exact hx
    · have h7 := hs.1
      rw [flatP_set xs k hkl] at h7
      exact R_mk' (by simp) h7
def zero3 : List Value := [.string ⟨#[]⟩, .string ⟨#[]⟩, .int .u64 0]
theorem run_clear1 (w : World) (ty : TypeId) (g off c : Nat) (cur : List Value) (hg : w.heap[g]? = some (.cells cur.toArray 27 (0, 0))) (hfit : off + 3 ≤ cur.length) :
    (Builtin.clear_ #[30] ty #[.slice (some ⟨g, off, none⟩) 1 c]).run Try.prog w = .ok (.tuple #[]) (w.setCells g off zero3) := by
  obtain ⟨i0, hi, hz, _, _⟩ := info_parts info27
  have h3 : (Builtin.zeroCells (Value.agg #[.string ⟨#[]⟩, .string ⟨#[]⟩, .int .u64 0]).cells 1).toList = zero3 := by
    unfold Builtin.zeroCells
    rw [Array.toList_map, Array.toList_range]
    rfl
  have hst := run_storeCells_cells (P := Try.prog) g off zero3 0 w (fun j hj => by
      rw [cell_of_row w g _ _ 27 (0, 0) hg]
      have : j < 3 := hj
      simp; omega) (fun j _ => blk_frozen hg _) (by intro u hu; simp only [zero3, List.mem_cons, List.not_mem_nil, or_false] at hu; rcases hu with rfl | rfl | rfl <;> rfl)
  simp only [Nat.add_zero] at hst
  simp [Builtin.clear_, run_underlying Try.underlying30, zeroValue, typeInfo, hi, hz, h3, hst]
section
variable {P : Program}
theorem wpList_clear_run (w : World) {ops : Array Oper} {rest : List Oper} {o : Oper} {a : Act} {Q : Exit → Act → World → Prop} (hgd : o.guard = none) (s : Operand) (t : TypeId)
    (ho : o.op = .call { callee := .builtin .clear, args := #[s], argTypes := #[t] }) (u : Value) (hs : a.eval s = u) {v' : Value} {w' : World}
    (hr : (Builtin.clear_ #[t] o.type #[u]).run P w = .ok v' w') (h : wpList P ops Q rest (a.put o.dst v') w') : wpList P ops Q (o :: rest) a w := by
  refine wpList_plain hgd fun _ hK => ?_
  unfold Oper.wp execOp
  simp only [ho, resolve, invoke, builtin, Sem.run_bind, Sem.run_pure, Result.andThen_ok, List.map_toArray, List.map_cons, List.map_nil, hs, hr]
  exact hK _ _ h
end

set_option maxHeartbeats 4000000 in
set_option maxRecDepth 100000 in
theorem delete_any (w : World) (base g n c k : Nat) (K : Int) (hK : K = (k : Int) + 1) (xs : List Part) (h : Kd.R kP 27 w base (fun _ => True) (.slice (some ⟨g, 0, none⟩) n c) xs) (hk : k < n) (hn : n ≤ 1000) (hb : base ≤ w.heap.size) :
    Calls Try.prog 29 #[.slice (some ⟨g, 0, none⟩) n c, .int .i64 k, .int .i64 K] w fun e w' => ∃ v, e = .returned v ∧ Kd.R kP 27 w' base (fun _ => True) v (xs.eraseIdx k) ∧ Below base w w' := by
  have HO := Aside0.mk h
  obtain ⟨hlen, hnc, _⟩ := Kd.R_reads' h
  have HL := Aside0.mk hlen
  clear h hlen
  obtain ⟨m, rfl⟩ : ∃ m, n = m + 1 := ⟨n - 1, by omega⟩
  have f5 : (k : Int) ≤ (m : Int) := by omega
  have hw1 : ((k : Int) + 1).toNat = k + 1 := by omega
  have e1 : ((k : Int) == (k : Int) + 1) = false := by simp; omega
  have q0 : (k : Int) + 1 ≤ (m : Int) + 1 := by omega
  have q1 : (0 : Int) ≤ (k : Int) + 1 := by omega
  have q2 : (k : Int) ≤ (c : Int) := by omega
  have q3 : (k : Int) ≤ (m : Int) + 1 := by omega
  have q4 : (k : Int) + 1 ≤ (c : Int) := by omega
  subst hK
  have f0 : (m : Int) ≤ (m : Int) + 1 := by omega
  have f1 : (m : Int) + 1 ≤ (c : Int) := by omega
  have f2 : ¬ c - m = 0 := by omega
  have f3 : (m : Int) ≤ (c : Int) := by omega
  have f4 : m + 1 - m = 1 := by omega
  by_cases hck : c = k + 1
  · obtain rfl : m = k := by omega
    subst hck
    clear f5 q2 q3
    go_enter Try.func29, Try.ntmps29
    go_wp2_with fail
    go_region_held3 (fun w' => True) (trivial)
      ((refine Kd.R_delete_step kP (w0 := w) base (by rfl) (.tmp 22) (.tmp 25) 30 27 rfl Try.underlying30 sz27 (g := g) (n := m + 1) (c := (m + 1)) (k := m) (xs := xs) (ok := fun _ => True) rfl rfl ?aA (by omega) (Kd.R_drew HO.out) hk (below_drew1 (Below.refl _ _)) hb ?_; (case aA => rw [if_pos rfl]); intro w1 ho hb1 hg1))
    rw [Nat.add_sub_cancel] at ho ⊢
    have HO1 := Aside0.mk ho
    have HB1 := Aside0.mk hb1
    obtain ⟨hl1, _, _⟩ := Kd.R_reads' ho
    have HL1 := Aside0.mk hl1
    obtain ⟨cur, how, htk⟩ := own_some (by have := R_flat ho; rwa [← hl1] at this)
    have hcl := how.hcur
    have HW := Aside0.mk how
    have HT := Aside0.mk htk
    clear ho hb1 hg1 hl1 how htk
    go_wp2_with (with_reducible refine wpList_clear_run w1 rfl (.tmp 31) 30 rfl _ rfl (run_clear1 w1 _ g (m * 3) _ cur HW.out.hg (by omega)) ?_)
    go_ret
    refine ⟨_, rfl, R_mk' HL1.out ⟨?_, .inr ⟨g, _, _, rfl, HW.out.hbg, setCells_blk HW.out.hg (by rw [hcl]; change _ + 3 ≤ _; omega), HW.out.hn, HW.out.hcap, ?_, ?_⟩⟩, setCells_below HB1.out HW.out.hbg⟩
    · rw [flatP_length, ← HL1.out]
    · rw [List.size_toArray, length_splice _ _ _ (by rw [hcl]; change _ + 3 ≤ _; omega), hcl]
    · rw [List.toList_toArray, ← HT.out]
      unfold splice
      rw [List.take_left' (by rw [List.length_take, hcl]; omega)]
  · skip
    go_enter Try.func29, Try.ntmps29
    go_wp2_with fail
    go_region_held3 (fun w' => True) (trivial)
      ((refine Kd.R_delete_step kP (w0 := w) base (by rfl) (.tmp 22) (.tmp 25) 30 27 rfl Try.underlying30 sz27 (g := g) (n := m + 1) (c := c) (k := k) (xs := xs) (ok := fun _ => True) rfl rfl ?aA (by omega) (Kd.R_drew HO.out) hk (below_drew1 (Below.refl _ _)) hb ?_; (case aA => rw [if_neg hck, Option.map_some]; change _ = some ((⟨g, 0, none⟩ : Addr).add ((k + 1) * 3)); rw [add_off, Nat.zero_add]); intro w1 ho hb1 hg1))
    rw [Nat.add_sub_cancel] at ho ⊢
    have HO1 := Aside0.mk ho
    have HB1 := Aside0.mk hb1
    obtain ⟨hl1, _, _⟩ := Kd.R_reads' ho
    have HL1 := Aside0.mk hl1
    obtain ⟨cur, how, htk⟩ := own_some (by have := R_flat ho; rwa [← hl1] at this)
    have hcl := how.hcur
    have HW := Aside0.mk how
    have HT := Aside0.mk htk
    clear ho hb1 hg1 hl1 how htk
    go_wp2_with (with_reducible refine wpList_clear_run w1 rfl (.tmp 31) 30 rfl _ rfl (run_clear1 w1 _ g (m * 3) _ cur HW.out.hg (by omega)) ?_)
    go_ret
    refine ⟨_, rfl, R_mk' HL1.out ⟨?_, .inr ⟨g, _, _, rfl, HW.out.hbg, setCells_blk HW.out.hg (by rw [hcl]; change _ + 3 ≤ _; omega), HW.out.hn, HW.out.hcap, ?_, ?_⟩⟩, setCells_below HB1.out HW.out.hbg⟩
    · rw [flatP_length, ← HL1.out]
    · rw [List.size_toArray, length_splice _ _ _ (by rw [hcl]; change _ + 3 ≤ _; omega), hcl]
    · rw [List.toList_toArray, ← HT.out]
      unfold splice
      rw [List.take_left' (by rw [List.length_take, hcl]; omega)]
end Go.Proofs.Ytoemddjolfblbaa
