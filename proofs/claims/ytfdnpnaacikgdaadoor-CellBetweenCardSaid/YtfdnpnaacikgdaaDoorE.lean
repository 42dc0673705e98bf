/- Cell: bytes.Replace of no zero, bytes.ReplaceAll, and a text's bytes with their end. -/
import Derived.Test.YtfdnpnaacikgdaaDoorD
/- escaped. -/
set_option linter.unusedVariables false
set_option linter.unusedSimpArgs false
namespace Go.Proofs.YtfdnpnaacikgdaaDoor
open Go.RowKit Go.Proofs.YtfdnpnaacikgdaaDoorW.PrintWords

abbrev kB : Kd Int := Kd.int .u8
theorem cells_encs (bs : List UInt8) : cells bs = encs (Value.int .u8) (nums bs) := by
  unfold cells encs nums
  rw [List.map_map]
  rfl
theorem R_cells {w : World} {base e : Nat} {v : Value} {bs : List UInt8} {n : Nat} (hn : n = bs.length) (h : w.ownsRow base e 1 v n (cells bs)) : Kd.R kB e w base (fun _ => True) v (nums bs) := by
  subst hn
  refine Kd.R_of_own ?_ (fun _ _ => trivial)
  rw [nums_length, ← cells_encs]
  exact h
theorem C_bsAt {w : World} {b o : Nat} {bs : List UInt8} (h : BsAt w b o bs) (hm : bs.length ≤ 9223372036854775807) : Kd.C kB w (some ⟨b, o, none⟩) bs.length (nums bs) := by
  refine Kd.C_of_reads (d := 0) ⟨nums_length bs, hm, fun _ => ⟨_, rfl, fun j hj => ?_⟩⟩
  have := h j hj
  rw [nums_getD bs j hj]
  rw [show (⟨b, o, none⟩ : Addr).add j = ⟨b, o + j, none⟩ by unfold Addr.add; split <;> simp_all]
  exact this
theorem bsAt_C {w : World} {b o n : Nat} {bs : List UInt8} (h : Kd.C kB w (some ⟨b, o, none⟩) n (nums bs)) : BsAt w b o bs := by
  intro i hi
  have hn : (nums bs).length = n := h.1
  rw [nums_length] at hn
  have h2 := (Kd.reads_of_C (d := 0) h).2.2 (by omega)
  obtain ⟨ad, e, hc⟩ := h2
  injection e with e
  subst e
  have h3 := hc i (by omega)
  rw [nums_getD bs i hi, show (⟨b, o, none⟩ : Addr).add i = ⟨b, o + i, none⟩ by unfold Addr.add; split <;> simp_all] at h3
  exact h3
theorem nums_append (a b : List UInt8) : nums (a ++ b) = nums a ++ nums b := by simp [nums]
theorem bytesOf_str (s : ByteArray) : bytesOf s = nums s.data.toList := rfl

set_option maxHeartbeats 1000000 in
set_option maxRecDepth 100000 in
theorem replace_none (b n c ob nb : Nat) (bs : List UInt8) (w : World) (hn : bs.length = n) (hc : n ≤ c) (hl : n ≤ 1000000) (h : BsAt w b 0 bs) (ho : BsAt w ob 0 [0]) (h0 : bs.count 0 = 0) :
    Calls Tryd.prog 43 #[.slice (some ⟨b, 0, none⟩) n c, .slice (some ⟨ob, 0, none⟩) 1 1, .slice (some ⟨nb, 0, none⟩) 2 2, .int .i64 (-1)] w fun e w' => ∃ v, e = .returned v ∧ Kd.R kB 5 w' w.heap.size (fun _ => True) v (nums bs) ∧ Below w.heap.size w w' := by
  have H := Aside0.mk h
  have HO := Aside0.mk ho
  have HM := Aside0.mk h0
  have hnn := Aside0.mk hn
  have HC : Aside0 (Kd.C kB w (some ⟨b, 0, none⟩) n (nums bs)) := ⟨by rw [← hn]; exact C_bsAt h (by omega)⟩
  clear h ho h0 hn
  go_enter Tryd.func43, Tryd.ntmps43
  go_wp2_with fail
  refine (count1_any b 0 n c ob bs 0 _ hnn.out H.out HO.out).mono ?_
  rintro e w1 ⟨rfl, hw1⟩
  rw [HM.out]
  subst hw1
  go_wp2_with (at_builtin; refine Kd.R_append_rows kB (w0 := w1) w1.heap.size rfl (.const (.slice none 0 0)) (.tmp 24) 27 5 (.int .u8 0) 1 rfl Tryd.underlying27 info5 rfl (by decide) (by omega) (.slice none 0 0) [] (nums bs) (some ⟨b, 0, none⟩) n c (fun _ => True) (fun _ => False) rfl rfl (Kd.R_nil _ _ _ _ _) HC.out (fun x cs h => h) (fun _ hk => hk.elim) (fun _ _ => trivial) (Below.refl _ _) (by simp) (by simp; omega) ?_; intro v1 w2 ho hb _ _)
  go_ret
  exact ⟨_, rfl, ho, hb⟩

theorem replace_any (b n c ob nb : Nat) (bs : List UInt8) (w : World) (hn : bs.length = n) (hc : n ≤ c) (hl : n ≤ 1000000) (h : BsAt w b 0 bs) (ho : BsAt w ob 0 [0]) (hnw : BsAt w nb 0 [0, 255]) :
    Calls Tryd.prog 43 #[.slice (some ⟨b, 0, none⟩) n c, .slice (some ⟨ob, 0, none⟩) 1 1, .slice (some ⟨nb, 0, none⟩) 2 2, .int .i64 (-1)] w fun e w' => ∃ v, e = .returned v ∧ Kd.R kB 5 w' w.heap.size (fun _ => True) v (nums (rep bs)) ∧ Below w.heap.size w w' := by
  by_cases h0 : bs.count 0 = 0
  · rw [rep_none h0]
    exact replace_none b n c ob nb bs w hn hc hl h ho h0
  · refine (replace_some b n c ob nb bs w hn hc hl h ho hnw h0).mono ?_
    rintro e w' ⟨v, rfl, h1, h2⟩
    exact ⟨v, rfl, R_cells rfl h1, h2⟩

set_option maxHeartbeats 1000000 in
theorem replaceAll_any (b n c ob nb : Nat) (bs : List UInt8) (w : World) (hn : bs.length = n) (hc : n ≤ c) (hl : n ≤ 1000000) (h : BsAt w b 0 bs) (ho : BsAt w ob 0 [0]) (hnw : BsAt w nb 0 [0, 255]) :
    Calls Tryd.prog 38 #[.slice (some ⟨b, 0, none⟩) n c, .slice (some ⟨ob, 0, none⟩) 1 1, .slice (some ⟨nb, 0, none⟩) 2 2] w fun e w' => ∃ v, e = .returned v ∧ Kd.R kB 5 w' w.heap.size (fun _ => True) v (nums (rep bs)) ∧ Below w.heap.size w w' := by
  have H := Aside0.mk h
  have HO := Aside0.mk ho
  have HN := Aside0.mk hnw
  have HL := Aside0.mk hn
  clear h ho hnw hn
  go_enter Tryd.func38, Tryd.ntmps38
  go_wp2_with fail
  refine (replace_any b n c ob nb bs _ HL.out hc hl H.out HO.out HN.out).mono ?_
  rintro e w' ⟨v, rfl, h1, h2⟩
  have H1 := Aside0.mk h1
  have H2 := Aside0.mk h2
  clear h1 h2
  obtain ⟨A, c1, e1⟩ := Kd.R_slice H1.out
  subst e1
  go_wp2_with fail
  go_ret
  exact ⟨_, rfl, H1.out, H2.out⟩
end Go.Proofs.YtfdnpnaacikgdaaDoor
