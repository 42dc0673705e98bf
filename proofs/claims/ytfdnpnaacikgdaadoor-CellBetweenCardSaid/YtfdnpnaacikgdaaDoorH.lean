/- Cell: the bytes of a key. -/
import Derived.Test.YtfdnpnaacikgdaaDoorG
import Derived.OneCell
/- Bytes. -/
set_option linter.unusedVariables false
set_option linter.unusedSimpArgs false
namespace Go.Proofs.YtfdnpnaacikgdaaDoor
open Go.RowKit Go.Proofs.YtfdnpnaacikgdaaDoorW.PrintWords

/-- The bytes so far, the time, and the variables that hold them. -/
structure PutAt (w0 w : World) (gb gt : Nat) (v : Value) (l : List Int) (x : Int) : Prop where
  hb : w.heap[gb]? = some (.cells #[v] 27 (0, 0))
  ht : w.heap[gt]? = some (.cells #[.int .u64 x] 22 (0, 0))
  hr : Kd.R kB 5 w w0.heap.size (fun _ => True) v l
  below : Below w0.heap.size w0 w
  lb : w0.heap.size ≤ gb
  lt : w0.heap.size ≤ gt
  len : l.length ≤ 100000
theorem PutAt.step {w0 w w1 : World} {gb gt : Nat} {v v1 : Value} {l : List Int} {x y : Int} (h : PutAt w0 w gb gt v l x) (h1 : Kd.R kB 5 w1 w0.heap.size (fun _ => True) v1 (l ++ [y])) (hb : Below w0.heap.size w0 w1) (hg : w.grownBy w1 v.ownBlock) (hn : l.length < 100000) :
    PutAt w0 (w1.setCell ⟨gb, 0, none⟩ v1) gb gt v1 (l ++ [y]) x := by
  have n1 : some gb ≠ v.ownBlock := Kd.R_ne h.hr h.hb (by decide)
  have n2 : some gt ≠ v.ownBlock := Kd.R_ne h.hr h.ht (by decide)
  have b1 := blk_grown h.hb hg n1
  have b2 := blk_grown h.ht hg n2
  have hne : gt ≠ gb := blk_ne h.ht h.hb (by decide)
  refine ⟨one_setCell b1, blk_far b2 hne v1, Kd.R_set h1 b1 (by decide) 0 v1, hb.setCell h.lb v1, h.lb, h.lt, by simp; omega⟩
set_option maxHeartbeats 1000000 in
theorem put_any (at_ x : Int) (gb gt : Nat) (v : Value) (l : List Int) (w0 w : World) (h0 : 0 ≤ at_) (h1 : at_ ≤ 56) (hx : 0 ≤ x) (hp : PutAt w0 w gb gt v l x) (hn : l.length < 100000) :
    Calls Tryd.prog 28 #[.int .i64 at_, .pointer (some ⟨gb, 0, none⟩), .pointer (some ⟨gt, 0, none⟩)] w fun e w' => ∃ v1, e = .returned (.tuple #[]) ∧ PutAt w0 w' gb gt v1 (l ++ [x / 2 ^ at_.toNat % 256]) x := by
  have c0 := cell_of_one hp.hb
  have c1 := cell_of_one hp.ht
  have f0 := free_of_one hp.hb
  obtain ⟨A, c, e0⟩ := Kd.R_slice hp.hr
  subst e0
  have HP := Aside0.mk hp
  obtain ⟨n, hnn⟩ : ∃ n, l.length = n := ⟨_, rfl⟩
  have HN := Aside0.mk hnn
  rw [hnn] at c0 hn
  have HP' : Aside0 (PutAt w0 w gb gt (.slice A n c) l x) := ⟨by rw [← hnn]; exact hp⟩
  clear hp HP hnn
  go_enter Tryd.func28, Tryd.ntmps28
  go_wp2_with (at_builtin; refine Kd.R_append kB (w0 := w0) w0.heap.size rfl (.tmp 4) (.tmp 10) 27 5 (.int .u8 0) 1 rfl Tryd.underlying27 info5 rfl (by decide) (by omega) (.slice A n c) l (x / 2 ^ at_.toNat % 256) _ (fun _ => True) (fun _ => False) rfl rfl rfl (fun _ hk => hk.elim) (fun _ _ => trivial) HP'.out.hr HP'.out.below HP'.out.below.size (by have := HN.out; omega) ?_; intro v1 w1 ho hb hg hat; have HS := Aside0.mk (HP'.out.step ho hb hg (by have := HN.out; omega)); have hbl := blk_grown HP'.out.hb hg (Kd.R_ne HP'.out.hr HP'.out.hb (by decide)); have d0 := cell_of_one hbl; have d1 := free_of_one hbl; clear hbl hat hg hb; obtain ⟨A1, c1, e1⟩ := Kd.R_slice ho; subst e1; clear ho; rw [List.length_append, List.length_singleton] at HS)
  go_end0
  exact ⟨_, rfl, HS.out⟩
end Go.Proofs.YtfdnpnaacikgdaaDoor
