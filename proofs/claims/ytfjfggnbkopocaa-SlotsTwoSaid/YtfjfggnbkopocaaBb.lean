/- Slots: numbers sorted. -/
import Derived.Test.YtfjfggnbkopocaaPSlotsTwox2
import Derived.Test.YtfjfggnbkopocaaBa
import Derived.Test.YtfjfggnbkopocaaE
import Derived.IntWalk
/- Sorted. -/
set_option linter.unusedVariables false
set_option linter.unusedSimpArgs false
namespace Go.Proofs.Ytfjfggnbkopocaa
open Go.RowKit Go.Proofs.YtfjfggnbkopocaaW.PrintWords
open PSlotsTwo
attribute [local go_sem] ptr key

theorem less_f (a b : Int) : cmp_Less_uint64.f a b = some (decide (a < b)) := by
  unfold cmp_Less_uint64.f cmp_isNaN_uint64.f
  simp
abbrev Up (l : List Int) : Prop := l.Pairwise (fun x y => x ≤ y)
theorem ins_l1 (n i : Int) : ∀ (A : List Int) (x : Int) (B C : List Int), Up (A ++ B) → (∀ b ∈ B, x ≤ b) → A.length < 1000000 →
    ∃ m S, S.Perm (A ++ x :: B) ∧ Up S ∧ ∀ k, slices_insertionSortOrdered_uint64.l1 (k + m) (A ++ x :: (B ++ C)) 0 n i A.length = slices_insertionSortOrdered_uint64.l0 k (S ++ C) 0 n (wrap64 (i + 1)) := by
  intro A
  generalize hA : A.length = d
  induction d generalizing A with
  | zero =>
    intro x B C hU hx hd
    obtain rfl := List.eq_nil_of_length_eq_zero hA
    refine ⟨1, x :: B, List.Perm.refl _, List.pairwise_cons.2 ⟨hx, hU⟩, fun k => ?_⟩
    show slices_insertionSortOrdered_uint64.l1 (k + 1) (x :: (B ++ C)) 0 n i ((0 : Nat) : Int) = _
    rw [slices_insertionSortOrdered_uint64.l1]
    rfl
  | succ d ih =>
    intro x B C hU hx hd
    obtain ⟨A', y, rfl⟩ : ∃ A' y, A = A' ++ [y] := by
      rcases List.eq_nil_or_concat A with rfl | ⟨L, b, h⟩
      · cases hA
      · exact ⟨L, b, by rw [h]; simp⟩
    have hA' : A'.length = d := by simpa using hA
    have w1 : wrap64 (((d + 1 : Nat) : Int) - 1) = (d : Int) := by rw [Go.IntWalk.wrap64_in _ (by omega)]; omega
    have r1 : rd (A' ++ [y] ++ x :: (B ++ C)) ((d + 1 : Nat) : Int) = x := by
      unfold rd
      have : (((d + 1 : Nat) : Int)).toNat = (A' ++ [y]).length := by simp [hA']
      rw [this]
      simp [List.getD]
    have r2 : rd (A' ++ [y] ++ x :: (B ++ C)) (d : Int) = y := by
      unfold rd
      have : ((d : Nat) : Int).toNat = A'.length := by simp [hA']
      rw [this]
      simp [List.getD]
    have step : ∀ k, slices_insertionSortOrdered_uint64.l1 (k + 1) (A' ++ [y] ++ x :: (B ++ C)) 0 n i ((d + 1 : Nat) : Int) = if x < y then slices_insertionSortOrdered_uint64.l1 k (A' ++ x :: ((y :: B) ++ C)) 0 n i (d : Int) else slices_insertionSortOrdered_uint64.l0 k (A' ++ [y] ++ x :: (B ++ C)) 0 n (wrap64 (i + 1)) := by
      intro k
      rw [slices_insertionSortOrdered_uint64.l1]
      have hlen : ((A' ++ [y] ++ x :: (B ++ C)).length : Int) = d + 1 + 1 + (B ++ C).length := by simp [hA']; omega
      rw [w1, r1, r2, less_f, if_pos (by omega), if_pos (by omega), if_pos (by rw [hlen]; omega), if_pos (by omega), if_pos (by rw [hlen]; omega)]
      simp only [Option.bind_some, decide_eq_true_eq]
      have hset : ((A' ++ [y] ++ x :: (B ++ C)).set (((d + 1 : Nat) : Int)).toNat y).set ((d : Nat) : Int).toNat x = A' ++ x :: ((y :: B) ++ C) := by
        have e1 : (((d + 1 : Nat) : Int)).toNat = (A' ++ [y]).length := by simp [hA']
        have e2 : ((d : Nat) : Int).toNat = A'.length := by simp [hA']
        rw [e1, e2, List.set_append_right _ _ (Nat.le_refl _), Nat.sub_self, List.set_cons_zero, List.append_assoc, List.set_append_right _ _ (Nat.le_refl _), Nat.sub_self]
        rfl
      rw [hset]
    by_cases hxy : x < y
    · have hU' : Up (A' ++ (y :: B)) := by simpa using hU
      obtain ⟨m, S, hp, hs, hr⟩ := ih A' hA' x (y :: B) C hU' (fun b hb => by
        rcases List.mem_cons.1 hb with rfl | hb
        · omega
        · exact hx b hb) (by omega)
      refine ⟨m + 1, S, hp.trans ?_, hs, fun k => ?_⟩
      · have : A' ++ [y] ++ x :: B = A' ++ (y :: x :: B) := by simp
        rw [this]
        exact List.Perm.append_left _ (List.Perm.swap _ _ _)
      · rw [← Nat.add_assoc, step, if_pos hxy]
        exact hr k
    · refine ⟨1, A' ++ [y] ++ x :: B, List.Perm.refl _, ?_, fun k => ?_⟩
      · have h1 := List.pairwise_append.1 hU
        refine List.pairwise_append.2 ⟨h1.1, List.pairwise_cons.2 ⟨hx, h1.2.1⟩, ?_⟩
        intro a ha b hb
        rcases List.mem_cons.1 hb with rfl | hb
        · have hay : a ≤ y := by
            rcases List.mem_append.1 ha with ha | ha
            · exact (List.pairwise_append.1 h1.1).2.2 a ha y (by simp)
            · rw [List.mem_singleton.1 ha]
              exact Int.le_refl _
          omega
        · exact h1.2.2 a ha b hb
      · rw [step, if_neg hxy]
        simp
theorem ins_l0 : ∀ (C S : List Int) (n : Int), Up S → n = S.length + C.length → n < 1000000 → ∃ K r, slices_insertionSortOrdered_uint64.l0 K (S ++ C) 0 n S.length = some r ∧ r.Perm (S ++ C) ∧ Up r
  | [], S, n, hS, hn, _ => by
    refine ⟨1, S, ?_, by simp, hS⟩
    rw [slices_insertionSortOrdered_uint64.l0, if_neg (by simp at hn; omega)]
    simp
  | x :: C, S, n, hS, hn, hb => by
    have hn' : n = S.length + 1 + C.length := by rw [hn]; simp; omega
    obtain ⟨m, S', hp, hs, hr⟩ := ins_l1 n S.length S x [] C (by simpa using hS) (by simp) (by omega)
    have hl : S'.length = S.length + 1 := by rw [hp.length_eq]; simp
    obtain ⟨K, r, h1, h2, h3⟩ := ins_l0 C S' n hs (by rw [hl]; omega) hb
    refine ⟨K + m + 1, r, ?_, h2.trans ?_, h3⟩
    · rw [slices_insertionSortOrdered_uint64.l0, if_pos (by omega)]
      have := hr K
      rw [Go.IntWalk.wrap64_in _ (by omega)] at this
      rw [hl] at h1
      exact this.trans h1
    · have : S ++ x :: C = S ++ x :: [] ++ C := by simp
      rw [this]
      exact hp.append_right C
theorem ins_f (l : List Int) (hl : l.length < 1000000) : ∃ K r, slices_insertionSortOrdered_uint64.f K l 0 l.length = some r ∧ r.Perm l ∧ Up r := by
  unfold slices_insertionSortOrdered_uint64.f
  cases l with
  | nil => exact ⟨1, [], by rw [slices_insertionSortOrdered_uint64.l0, if_neg (by rw [Go.IntWalk.wrap64_in _ (by omega)]; simp)], List.Perm.refl _, List.Pairwise.nil⟩
  | cons x C =>
    obtain ⟨K, r, h1, h2, h3⟩ := ins_l0 C [x] (x :: C).length (by simp) (by simp; omega) (by omega)
    refine ⟨K, r, ?_, h2, h3⟩
    rw [Go.IntWalk.wrap64_in _ (by omega)]
    exact h1
set_option maxHeartbeats 4000000 in
set_option maxRecDepth 100000 in
theorem Len64_small (n : Int) (h0 : 0 ≤ n) (h1 : n < 256) (w : World) : Calls Try.prog 65 #[.int .u64 n] w fun e w' => (∃ r, e = .returned (.int .i64 r)) ∧ w' = w := by
  have b1 : decide (n ≥ 4294967296) = false := df (by omega)
  have b2 : decide (n ≥ 65536) = false := df (by omega)
  have b3 : decide (n ≥ 256) = false := df (by omega)
  have b4 : n % 256 = n := by omega
  go_enter Try.func65, Try.ntmps65
  go_wp2_with fail
  go_ret
  exact ⟨⟨_, rfl⟩, rfl⟩
theorem Len_small (n : Int) (h0 : 0 ≤ n) (h1 : n < 256) (w : World) : Calls Try.prog 54 #[.int .u64 n] w fun e w' => (∃ r, e = .returned (.int .i64 r)) ∧ w' = w := by
  have h := Len64_small n h0 h1 w
  go_enter Try.func54, Try.ntmps54
  go_wp2_with fail
  refine h.mono ?_
  rintro e w' ⟨⟨r, rfl⟩, rfl⟩
  go_wp2_with fail
  go_ret
  exact ⟨⟨_, rfl⟩, rfl⟩
def kU : Kd Int := Kd.int .u64
set_option maxHeartbeats 4000000 in
theorem pdq_small (l : List Int) (hl : l.length ≤ 12) (v : Value) (lim : Int) (w0 w : World) (hB : Below w0.heap.size w0 w) (hr : kU.R 30 w w0.heap.size tr v l) :
    Calls Try.prog 53 #[v, .int .i64 0, .int .i64 l.length, .int .i64 lim] w fun e w' => e = .returned (.tuple #[]) ∧ ∃ r, r.Perm l ∧ Up r ∧ kU.R 30 w' w0.heap.size tr v r ∧ Below w0.heap.size w0 w' := by
  obtain ⟨K, r, hf, hp, hu⟩ := ins_f l (by omega)
  have hc := slices_insertionSortOrdered_uint64.calls K tr v l 0 l.length r w0 w hB hr hf
  have HP := Aside0.mk (And.intro hp hu)
  have b1 : decide (wrap64 (l.length : Int) ≤ 12) = true := dt (by rw [Go.IntWalk.wrap64_in _ (by omega)]; omega)
  clear hf hr hp hu hB
  generalize (l.length : Int) = n at b1 hc ⊢
  go_enter Try.func53, Try.ntmps53
  go_wp2_with fail
  refine wp_loop_rounds 1 ?_
  rw [rounds_succ]
  go_wp2_with fail
  refine hc.mono ?_
  rintro e w' ⟨rfl, hr, hb, _⟩
  have HR := Aside0.mk hr
  have HB := Aside0.mk hb
  clear hr hb hc
  go_wp2_with fail
  refine bodyPost_ret (results_none rfl _ _ _) rfl ?_
  exact ⟨rfl, r, HP.out.1, HP.out.2, Kd.R_mono HR.out (fun _ _ => trivial), HB.out⟩
set_option maxHeartbeats 4000000 in
theorem Sort_small (l : List Int) (hl : l.length ≤ 12) (v : Value) (w0 w : World) (hB : Below w0.heap.size w0 w) (hr : kU.R 30 w w0.heap.size tr v l) :
    Calls Try.prog 47 #[v] w fun e w' => e = .returned (.tuple #[]) ∧ ∃ r, r.Perm l ∧ Up r ∧ kU.R 30 w' w0.heap.size tr v r ∧ Below w0.heap.size w0 w' := by
  obtain ⟨A, c, rfl⟩ := Kd.R_slice hr
  have HC := Aside0.mk (fun lim => pdq_small l hl (.slice A l.length c) lim w0 w hB hr)
  have hn := Len_small l.length (by omega) (by omega) w
  have e1 : IntKind.u64.wrap (l.length : Int) = l.length := u64 (by omega)
  clear hr hB hl
  go_enter Try.func47, Try.ntmps47
  go_wp2_with fail
  refine hn.mono ?_
  rintro e w' ⟨⟨lim, rfl⟩, rfl⟩
  clear hn
  go_wp2_with fail
  refine (HC.out lim).mono ?_
  rintro e w' ⟨rfl, hr⟩
  have HR := Aside0.mk hr
  clear hr
  go_wp2_with fail
  go_end0
  exact ⟨rfl, HR.out⟩
theorem own_R {w : World} {base : Nat} {v : Value} {ss : List Int} (h : w.ownsRow base 30 1 v ss.length (ss.map key)) : kU.R 30 w base tr v ss := by
  refine ⟨fun _ _ => trivial, ss.map key, h, by rw [List.length_map]; exact (Nat.mul_one _).symm, fun j p hj => ?_⟩
  have : (((ss.map key).drop (j * 1)).take 1) = [key p] := by
    rw [Nat.mul_one, ← List.map_drop, ← List.map_take]
    obtain ⟨hlt, hp⟩ := List.getElem?_eq_some_iff.1 hj
    rw [List.drop_eq_getElem_cons hlt, hp]
    rfl
  have e1 : (kU.sz) = 1 := rfl
  rw [e1, this]
  rfl
/-- The keys of a map, sorted. -/
theorem Sorted_any (m : Nat) (ps : List (Int × Nat)) (hps : ps.length ≤ 12) (w w1 : World) (h1 : w1 = w.alloc (.cells #[.map (some m)] 57)) (hm : MapAt w m ps) :
    Calls Try.prog 32 #[.func (.func 48) #[] #[.pointer (some ⟨w.heap.size, 0, none⟩)]] w1 fun e w' => ∃ (v : Value) (r : List Int), e = .returned v ∧ r.Perm (ps.map (·.1)) ∧ Up r ∧ kU.R 30 w' w1.heap.size tr v r ∧ Below w1.heap.size w1 w' := by
  have hm1 : MapAt w1 m ps := by
    rw [h1]
    exact hm.move (Below.heap_alloc _ _ _ hm.lt)
  have hx : w1.heap[w.heap.size]? = some (.cells #[.map (some m)] 57 (0, 0)) := by rw [h1]; exact heap_alloc_new w _
  have hg := keys_gives 1 (Nat.le_refl _) w.heap.size m ps w1 (Array.getElem?_eq_some_iff.1 hx).1 (cell_of_box_a hx).1 hm1
  have hc := (callsIn_wide (n := 3)).1 (collect_any 3 (by omega) 48 _ enters48 _ ps.length (by omega) w1 hg)
  clear hg hm1 hx hm h1
  go_enter Try.func32, Try.ntmps32
  go_wp2_with fail
  refine hc.mono ?_
  rintro e w2 ⟨v, ss, rfl, hp, hrow, hnil, hb⟩
  have HR := Aside0.mk (own_R hrow)
  have HP := Aside0.mk hp
  have HB := Aside0.mk hb
  clear hc hp hrow hnil hb
  have hl : ss.length ≤ 12 := by rw [HP.out.length_eq, List.length_map]; exact hps
  have hS := Sort_small ss hl v w1 w2 HB.out HR.out
  clear hl
  go_wp2_with fail
  refine hS.mono ?_
  rintro e w3 ⟨rfl, r, hrp, hru, hrr, hrb⟩
  have HX := Aside0.mk (And.intro (hrp.trans HP.out) (And.intro hru (And.intro hrr hrb)))
  clear hS hrp hru hrr hrb
  go_wp2_with fail
  go_ret
  exact ⟨v, r, rfl, HX.out⟩
end Go.Proofs.Ytfjfggnbkopocaa
