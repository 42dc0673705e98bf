/- Cell: a text's bytes with their end (escaped). -/
import Derived.Test.YtfdnpnaacikgdaaDoorE
import Derived.Lib.ConvBytes
/- escaped. -/
set_option linter.unusedVariables false
set_option linter.unusedSimpArgs false
namespace Go.Proofs.YtfdnpnaacikgdaaDoor
open Go.RowKit Go.Proofs.YtfdnpnaacikgdaaDoorW.PrintWords

theorem bsAt_world (w : World) (s : ByteArray) : BsAt (Lib.bytesWorld w 5 s) w.heap.size 0 s.data.toList := by
  intro i hi
  rw [Nat.zero_add, Lib.bytesWorld_cell w 5 s i (by rwa [Array.length_toList] at hi)]
theorem bsAt_blk {w : World} {g : Nat} {bs : List UInt8} (h : w.heap[g]? = some (.cells (cells bs).toArray 5 (0, 0))) : BsAt w g 0 bs := by
  intro i hi
  rw [Nat.zero_add, blk_cell h, List.getElem?_toArray, cells_get hi]
def escL (s : ByteArray) : List UInt8 := rep s.data.toList ++ [0, 1]
def cell_escaped.f (s : ByteArray) : Option (List Int) := if s.size ≤ 1000 then some (nums (escL s)) else none
set_option maxHeartbeats 1000000 in
theorem escaped_any (s : ByteArray) (w : World) (hs : s.size ≤ 1000) :
    Calls Tryd.prog 27 #[.string s] w fun e w' => ∃ v0_ : Value, e = .returned v0_ ∧ Kd.R kB 5 w' w.heap.size (fun _ => True) v0_ (nums (escL s)) ∧ Below w.heap.size w w' := by
  have kb := fun W => print_bytes (P := Tryd.prog) 9 27 5 Tryd.underlying9 Tryd.underlying27 Tryd.underlying5 s W
  have HW0 := Aside0.mk (bsAt_world w s)
  have HB0 : Aside0 (Below w.heap.size w (Lib.bytesWorld w 5 s)) := ⟨bytes_below (Below.refl _ _) (Nat.le_refl _) 5 s⟩
  have hsz := Lib.bytesWorld_size w 5 s
  have HZ := Aside0.mk hsz
  obtain ⟨c, hc⟩ : ∃ c, grownCap w s.size 0 5 = c := ⟨_, rfl⟩
  have hcge : s.size ≤ c := by rw [← hc]; exact grownCap_ge w s.size 0 5
  obtain ⟨w1, hw1⟩ : ∃ w1, Lib.bytesWorld w 5 s = w1 := ⟨_, rfl⟩
  have kb1 := kb w
  rw [hc, hw1] at kb1
  rw [hw1] at HW0 HB0 hsz HZ
  clear kb hc hw1
  go_enter Tryd.func27, Tryd.ntmps27
  go_wp2_with fail
  have HC0 : Aside0 (BsAt ((w1.alloc (Obj.cells #[Value.int IntKind.u8 0] 5)).alloc (Obj.cells #[Value.int IntKind.u8 0, Value.int IntKind.u8 255] 5)) w.heap.size 0 s.data.toList) := ⟨HW0.out.below (by simpa using below_alloc (below_alloc (Below.refl w1.heap.size w1) _) _)⟩
  have HC1 : Aside0 (BsAt ((w1.alloc (Obj.cells #[Value.int IntKind.u8 0] 5)).alloc (Obj.cells #[Value.int IntKind.u8 0, Value.int IntKind.u8 255] 5)) (w.heap.size + 1) 0 [0]) := ⟨by
    rw [← HZ.out]
    exact bsAt_blk (blk_alloc (heap_alloc_new w1 _) _)⟩
  have HC2 : Aside0 (BsAt ((w1.alloc (Obj.cells #[Value.int IntKind.u8 0] 5)).alloc (Obj.cells #[Value.int IntKind.u8 0, Value.int IntKind.u8 255] 5)) (w.heap.size + 1 + 1) 0 [0, 255]) := ⟨by
    have h := bsAt_blk (bs := [0, 255]) (heap_alloc_new (w1.alloc (Obj.cells #[Value.int IntKind.u8 0] 5)) (.cells #[.int .u8 0, .int .u8 255] 5))
    rwa [World.size_alloc, HZ.out] at h⟩
  have HB2 : Aside0 (Below w.heap.size w ((w1.alloc (Obj.cells #[Value.int IntKind.u8 0] 5)).alloc (Obj.cells #[Value.int IntKind.u8 0, Value.int IntKind.u8 255] 5))) := ⟨below_alloc (below_alloc HB0.out _) _⟩
  have HZ2 : Aside0 (w.heap.size ≤ ((w1.alloc (Obj.cells #[Value.int IntKind.u8 0] 5)).alloc (Obj.cells #[Value.int IntKind.u8 0, Value.int IntKind.u8 255] 5)).heap.size) := ⟨HB2.out.size⟩
  generalize ((w1.alloc (Obj.cells #[Value.int IntKind.u8 0] 5)).alloc (Obj.cells #[Value.int IntKind.u8 0, Value.int IntKind.u8 255] 5)) = w2 at HC0 HC1 HC2 HB2 HZ2 ⊢
  clear hsz kb1
  refine (replaceAll_any w.heap.size s.size c (w.heap.size + 1) (w.heap.size + 1 + 1) s.data.toList w2 (data_length s) hcge (by omega) HC0.out HC1.out HC2.out).mono ?_
  rintro e w3 ⟨v, rfl, hr, hb⟩
  have HR := Aside0.mk (Kd.R_lower hr HZ2.out)
  have HB3 := Aside0.mk (HB2.out.trans (hb.mono HZ2.out))
  have HL : Aside0 ((nums (rep s.data.toList)).length ≤ 2000) := ⟨by
    rw [nums_length, rep_length]
    have h1 : s.data.toList.count 0 ≤ s.data.toList.length := List.count_le_length
    rw [data_length] at h1 ⊢
    omega⟩
  clear hr hb
  obtain ⟨A, c1, e1⟩ := Kd.R_slice HR.out
  subst e1
  go_wp2_with (at_builtin; refine Kd.R_append_rows kB (w0 := w) w.heap.size rfl (.tmp 7) (.tmp 8) 27 5 (.int .u8 0) 1 rfl Tryd.underlying27 info5 rfl (by decide) (by omega) (.slice A (nums (rep s.data.toList)).length c1) (nums (rep s.data.toList)) (nums [0, 1]) (some ⟨w3.heap.size, 0, none⟩) 2 2 (fun _ => True) (fun _ => False) rfl rfl (Kd.R_alloc HR.out _) (C_bsAt (w := w3.alloc (.cells #[.int .u8 0, .int .u8 1] 5)) (bs := [0, 1]) ?c1 (by simp)) (fun x cs h => h) (fun _ hk => hk.elim) (fun _ _ => trivial) (below_alloc HB3.out _) ?c2 ?c3 ?_; (case c1 => exact bsAt_blk (heap_alloc_new w3 _)); (case c2 => (have := HB3.out.size; simp; omega)); (case c3 => (have := HL.out; omega)); intro v1 w4 ho4 hb4 _ _)
  have HO4 : Aside0 (Kd.R kB 5 w4 w.heap.size (fun _ => True) v1 (nums (escL s))) := ⟨by unfold escL; rw [nums_append]; exact ho4⟩
  have HB4 := Aside0.mk hb4
  clear ho4 hb4
  obtain ⟨A4, c4, e4⟩ := Kd.R_slice HO4.out
  subst e4
  go_wp2_with fail
  go_ret
  exact ⟨_, rfl, HO4.out, HB4.out⟩
theorem cell_escaped.calls (a0 : ByteArray) (r : List Int) (w : World) (h : cell_escaped.f a0 = some r) :
    Calls Tryd.prog 27 #[.string a0] w fun e w' => ∃ v0_ : Value, e = .returned (v0_) ∧ Kd.R (Kd.int .u8) 5 w' w.heap.size (fun _ => True) v0_ r ∧ Below w.heap.size w w' := by
  unfold cell_escaped.f at h
  split at h
  · obtain rfl := Option.some.inj h
    exact escaped_any a0 w (by assumption)
  · cases h
end Go.Proofs.YtfdnpnaacikgdaaDoor
