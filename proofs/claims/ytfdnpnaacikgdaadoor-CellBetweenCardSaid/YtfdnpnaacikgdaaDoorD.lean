/- bytes.Replace of zeros by a zero and 255. -/
import Derived.Test.YtfdnpnaacikgdaaDoorC
import Derived.Deep.RegionHeld3
import Derived.Laws.MakeOwn
/- bytes.Replace. -/
set_option linter.unusedVariables false
set_option linter.unusedSimpArgs false
namespace Go.Proofs.YtfdnpnaacikgdaaDoor
open Go.RowKit Go.Proofs.YtfdnpnaacikgdaaDoorW.PrintWords

theorem info5 : (Tryd.prog.info? 5).map (fun i => (i.zero, i.size, i.bytes)) = some (some (.int .u8 0), 1, 1) := by kernel_rfl
theorem sz5 : (Tryd.prog.info? 5).map (·.size) = some 1 := by kernel_rfl
section
variable {P : Program}
theorem copy_step (w : World) {ops : Array Oper} {o : Oper} {a : Act} {K : Act → World → Prop} {Q : Exit → Act → World → Prop} (hw : Region.wanted o (yielded ops a.tmps) = true) (d s : Operand) (t t' : TypeId)
    (ho : o.op = .call { callee := .builtin .copy, args := #[d, s], argTypes := #[t, t'] }) (v u : Value) (hd : a.eval d = v) (hs : a.eval s = u) {v' : Value} {w' : World}
    (hr : (Builtin.copy_ #[t, t'] o.type #[v, u]).run P w = .ok v' w') (h : K (a.put o.dst v') w') : if Region.wanted o (yielded ops a.tmps) = true then Oper.wp P o a w K Q else K (a.put o.dst undef) w := by
  rw [if_pos hw]
  exact wp_copy_run w d s t t' ho v u hd hs hr h
end
theorem splice_upto {α : Type} (L : List α) (off : Nat) (cs : List α) (h : off ≤ L.length) : (splice L off cs).take (off + cs.length) = L.take off ++ cs := by
  unfold splice
  rw [← List.append_assoc, List.take_left' (by rw [List.length_append, List.length_take]; omega)]
theorem BsAt.below {w w' : World} {b o : Nat} {bs : List UInt8} (h : BsAt w b o bs) (hb : Below w.heap.size w w') : BsAt w' b o bs := fun i hi => (hb.cell (World.block_lt_of_cell? w _ (h i hi))).trans (h i hi)
/-- How far the replacing is: s of the bytes read, p written, k zeros. -/
structure RepAt (w : World) (g : Nat) (bs : List UInt8) (tot s p k : Nat) (dn rest : List UInt8) (cur : List Value) : Prop where
  eq : bs = dn ++ rest
  hs : dn.length = s
  hk : dn.count 0 = k
  hp : (rep dn).length = p
  hg : w.heap[g]? = some (.cells cur.toArray 5 (0, 0))
  hcur : cur.length = tot
  htake : cur.take p = cells (rep dn)

theorem RepAt.bound {w : World} {g : Nat} {bs : List UInt8} {n m s p k : Nat} {dn rest : List UInt8} {cur : List Value} (h : RepAt w g bs (n + m) s p k dn rest cur) (hn : bs.length = n) (hm : bs.count 0 = m) : s + rest.length = n ∧ k + rest.count 0 = m ∧ p = s + k := by
  have e := h.eq
  subst e
  rw [List.length_append, h.hs] at hn
  rw [List.count_append, h.hk] at hm
  have := h.hp
  rw [rep_length, h.hs, h.hk] at this
  exact ⟨hn, hm, this.symm⟩
/-- One zero more. -/
theorem RepAt.step {w : World} {g : Nat} {bs : List UInt8} {tot s p k : Nat} {dn pre post : List UInt8} {cur : List Value} (h : RepAt w g bs tot s p k dn (pre ++ 0 :: post) cur) (h0 : pre.count 0 = 0) {q : Nat} (hq : pre.length = q) (hfit : p + q + 2 ≤ tot) :
    ∃ cur', RepAt ((w.setCells g p (cells pre)).setCells g (p + q) (cells [0, 255])) g bs tot (s + q + 1) (p + q + 2) (k + 1) (dn ++ pre ++ [0]) post cur' := by
  subst hq
  have hf1 : p + (cells pre).length ≤ cur.length := by rw [cells_length, h.hcur]; omega
  have h1 := setCells_blk (cs := cells pre) h.hg hf1
  have hl1 := length_splice cur p (cells pre) hf1
  have hf2 : p + pre.length + (cells [0, 255]).length ≤ (splice cur p (cells pre)).length := by rw [hl1, h.hcur]; exact hfit
  have h2 := setCells_blk (cs := cells [0, 255]) h1 hf2
  refine ⟨_, by rw [h.eq]; simp, by simp [h.hs]; omega, by simp [h.hk, h0], by rw [rep_append, rep_append, rep_none h0]; simp [h.hp, rep]; omega, h2, by rw [length_splice _ _ _ hf2, hl1, h.hcur], ?_⟩
  have hp2 : p ≤ cur.length := by rw [h.hcur]; omega
  have e1 := splice_upto cur p (cells pre) hp2
  have e2 := splice_upto (splice cur p (cells pre)) (p + pre.length) (cells [0, 255]) (by rw [hl1, h.hcur]; omega)
  rw [cells_length] at e1
  change List.take (p + pre.length + 2) _ = _ at e2
  rw [e1] at e2
  rw [e2, h.htake, rep_append, rep_append, rep_none h0, cells_append, cells_append]
  rfl
theorem RepAt.done {w : World} {g base : Nat} {bs : List UInt8} {tot s p k q : Nat} {dn rest : List UInt8} {cur : List Value} (h : RepAt w g bs tot s p k dn rest cur) (h0 : rest.count 0 = 0) (hq : rest.length = q) (ht : p + q = tot) (hb : base ≤ g) (hm : tot ≤ maxLen) :
    (w.setCells g p (cells rest)).ownsRow base 5 1 (.slice (some ⟨g, 0, none⟩) (p + q) tot) (rep bs).length (cells (rep bs)) := by
  have hr : rep bs = rep dn ++ rest := by rw [h.eq, rep_append, rep_none h0]
  have hl : (rep bs).length = p + q := by rw [hr, List.length_append, h.hp, hq]
  have hf : p + (cells rest).length ≤ cur.length := by rw [cells_length, hq, h.hcur]; omega
  rw [hl]
  refine ⟨by rw [cells_length, hl, Nat.mul_one], .inr ⟨g, tot, _, rfl, hb, setCells_blk h.hg hf, by omega, hm, ?_, ?_⟩⟩
  · rw [List.size_toArray, length_splice _ _ _ hf, h.hcur, Nat.mul_one]
  · rw [List.toList_toArray, Nat.mul_one, hr, cells_append, ← h.htake]
    have := splice_upto cur p (cells rest) (by rw [h.hcur]; omega)
    rwa [cells_length, hq] at this
theorem RepAt.doneNil {w : World} {g base : Nat} {bs : List UInt8} {tot s p k : Nat} {dn rest : List UInt8} {cur : List Value} (h : RepAt w g bs tot s p k dn rest cur) (h0 : rest = []) (ht : p = tot) (hb : base ≤ g) (hm : tot ≤ maxLen) :
    w.ownsRow base 5 1 (.slice (some ⟨g, 0, none⟩) tot tot) (rep bs).length (cells (rep bs)) := by
  subst h0 ht
  have hr : rep bs = rep dn := by rw [h.eq, List.append_nil]
  have hl : (rep bs).length = p := by rw [hr, h.hp]
  rw [hl]
  refine ⟨by rw [cells_length, hl, Nat.mul_one], .inr ⟨g, p, _, rfl, hb, h.hg, by omega, hm, ?_, ?_⟩⟩
  · rw [List.size_toArray, h.hcur, Nat.mul_one]
  · rw [List.toList_toArray, Nat.mul_one, hr, ← h.htake]
set_option maxHeartbeats 4000000 in
set_option maxRecDepth 100000 in
theorem replace_some (b n c ob nb : Nat) (bs : List UInt8) (w : World) (hn : bs.length = n) (hc : n ≤ c) (hl : n ≤ 1000000) (h : BsAt w b 0 bs) (ho : BsAt w ob 0 [0]) (hnw : BsAt w nb 0 [0, 255]) (h0 : bs.count 0 ≠ 0) :
    Calls Tryd.prog 43 #[.slice (some ⟨b, 0, none⟩) n c, .slice (some ⟨ob, 0, none⟩) 1 1, .slice (some ⟨nb, 0, none⟩) 2 2, .int .i64 (-1)] w fun e w' => ∃ v, e = .returned v ∧ w'.ownsRow w.heap.size 5 1 v (rep bs).length (cells (rep bs)) ∧ Below w.heap.size w w' := by
  have H := Aside0.mk h
  have HO := Aside0.mk ho
  have HN := Aside0.mk hnw
  obtain ⟨m, hm⟩ : ∃ m, bs.count 0 = m := ⟨_, rfl⟩
  have HM := Aside0.mk hm
  have hml : m ≤ n := by rw [← hm, ← hn]; exact List.count_le_length
  rw [hm] at h0
  have e0 : ((m : Int) == 0) = false := by simp; omega
  have hnn := Aside0.mk hn
  obtain ⟨i0, hi0, hz0⟩ := Option.map_eq_some_iff.1 info5
  simp only [Prod.mk.injEq] at hz0
  have hmk := fun W => run_make (P := Tryd.prog) W 27 5 i0 _ Tryd.underlying27 hi0 hz0.1 .i64 .i64 ((n : Int) + m) ((n : Int) + m) (by omega) (by omega) (by rw [hz0.2.2]; omega) (by omega)
  have hto : ((n : Int) + (m : Int)).toNat = n + m := by omega
  simp only [hz0.2.1, hto] at hmk
  have HMK := Aside0.mk hmk
  clear h ho hnw hm hn hi0 hz0 hmk hto
  go_enter Tryd.func43, Tryd.ntmps43
  go_wp2_with (go_at_call 46; refine (count1_any b 0 n c ob bs 0 _ hnn.out H.out HO.out).mono ?_; rintro e w1 ⟨rfl, hw1⟩; rw [HM.out]; subst hw1)
  rw [HMK.out]
  simp only [Result.andThen]
  rw [Oper.upon_value]
  obtain ⟨cur0, hcur0⟩ : ∃ cur0 : List Value, madeCells (Value.int .u8 0).cells ((n + m) * 1) = cur0.toArray := ⟨_, rfl⟩
  have hcl0 : cur0.length = n + m := by
    have := congrArg Array.size hcur0
    rw [size_madeCells] at this
    simpa using this.symm
  rw [hcur0]
  have HS0 : Aside0 (RepAt (w1.alloc (.cells cur0.toArray 5)) w1.heap.size bs (n + m) 0 0 0 [] bs cur0) := ⟨⟨rfl, rfl, rfl, rfl, heap_alloc_new w1 _, hcl0, by simp [rep, cells]⟩⟩
  have HB0 : Aside0 (Below w1.heap.size w1 (w1.alloc (.cells cur0.toArray 5))) := ⟨(Below.refl _ _).alloc (Nat.le_refl _) _⟩
  generalize w1.alloc (.cells cur0.toArray 5) = w2 at HS0 HB0 ⊢
  clear hcur0 hcl0
  have HG : Aside0 (w1.heap.size = w1.heap.size) := ⟨rfl⟩
  obtain ⟨g, hg⟩ : ∃ g, w1.heap.size = g := ⟨_, rfl⟩
  have HGG := Aside0.mk hg
  rw [hg] at HS0 ⊢
  go_wp2_with fail
  go_loopw [11, 12, 13, 49] (fun vp vs vj vk w' => ∃ (s p k : Nat) (dn rest : List UInt8) (cur : List Value), s ≤ n ∧ k ≤ m ∧ p ≤ n + m ∧ vp = .int .i64 p ∧ vs = .int .i64 s ∧ vk = .int .i64 k ∧ Aside0 (RepAt w' g bs (n + m) s p k dn rest cur) ∧ Aside0 (Below w1.heap.size w1 w')) (fun _ _ _ vk _ => m - (intOf vk).toNat)
  case atStart => exact ⟨0, 0, 0, [], bs, cur0, by omega, by omega, by omega, rfl, rfl, rfl, HS0, HB0⟩
  case round =>
    obtain ⟨s, p, k, dn, rest, cur, hsn, hkm, hpt, rfl, rfl, rfl, HS, HB⟩ := hrel
    obtain ⟨t1, t2, t3⟩ := HS.out.bound hnn.out HM.out
    by_cases hlt : k < m
    · have h4 : (k : Int) < (m : Int) := by omega
      have h4' : decide (k < m) = true := dt hlt
      obtain ⟨pre, post, hr, hpre, hix⟩ := first_zero (a := rest) (by omega)
      obtain ⟨q, hq⟩ : ∃ q, pre.length = q := ⟨_, rfl⟩
      have hrl : rest.length = q + 1 + post.length := by rw [hr, List.length_append, List.length_cons, hq]; omega
      rw [hq] at hix
      have hrc : rest.count 0 = 1 + post.count 0 := by rw [hr, List.count_append, hpre, List.count_cons]; simp; omega
      have b1 : s + q + 1 ≤ n := by omega
      have b2 : p + q + 2 ≤ n + m := by omega
      have HIX := Aside0.mk hix
      have HRL : Aside0 (rest.length = n - s) := ⟨by omega⟩
      have HBS : Aside0 (BsAt wr b s rest) := ⟨by
        have h9 := H.out.below HB.out
        rw [HS.out.eq] at h9
        have h8 := h9.drop
        rwa [HS.out.hs, Nat.zero_add] at h8⟩
      have HOB : Aside0 (BsAt wr ob 0 [0]) := ⟨HO.out.below HB.out⟩
      have f1 : (s : Int) ≤ (n : Int) := by omega
      have f2 : (n : Int) ≤ (c : Int) := by omega
      have f3 : (s : Int) ≤ (c : Int) := by omega
      have f4 : ¬ c - s = 0 := by omega
      have f5 : (s : Int) ≤ (s : Int) + (q : Int) := by omega
      have f6 : (s : Int) + (q : Int) ≤ (c : Int) := by omega
      have f7 : ((s : Int) + (q : Int)).toNat = s + q := by omega
      have f8 : IntKind.i64.wrap ((s : Int) + (q : Int)) = (s : Int) + (q : Int) := by rw [IntKind.wrap_i64]; omega
      have f9 : (0 : Int) ≤ (s : Int) + (q : Int) := by omega
      have g1 : (p : Int) ≤ (n : Int) + (m : Int) := by omega
      have g2 : ¬ n + m - p = 0 := by omega
      have g3 : IntKind.i64.wrap ((p : Int) + (q : Int)) = (p : Int) + (q : Int) := by rw [IntKind.wrap_i64]; omega
      have g4 : (0 : Int) ≤ (p : Int) + (q : Int) := by omega
      have g5 : ((p : Int) + (q : Int)).toNat = p + q := by omega
      have g6 : (p : Int) + (q : Int) ≤ (n : Int) + (m : Int) := by omega
      have g7 : ¬ n + m - (p + q) = 0 := by omega
      have g8 : ¬ n + m = p := by omega
      have g9 : ¬ c = s := by omega
      have g10 : ¬ n + m = p + q := by omega
      have HRR := Aside0.mk hr
      have HPR := Aside0.mk hpre
      have HQ := Aside0.mk hq
      clear t1 t2 t3 hr hpre hix hrl hrc hq
      go_wp2_with (go_at_call 47; refine (index1_any b s (n - s) _ ob rest 0 _ HRL.out HBS.out HOB.out).mono ?_; rintro e w3 ⟨rfl, hw3⟩; rw [HIX.out]; subst hw3)
      have HC1 : Aside0 (∀ ty dc sc, (Builtin.copy_ #[27, 27] ty #[.slice (some ⟨g, p, none⟩) (n + m - p) dc, .slice (some ⟨b, s, none⟩) q sc]).run Tryd.prog w3.drew = .ok (.int .i64 q) (w3.drew.setCells g p (cells pre))) := ⟨fun ty dc sc => by
        have hmin : Nat.min q (n + m - p) = q := Nat.min_eq_left (by omega)
        have hpr : BsAt w3 b s pre := by have h9 := HBS.out; rw [HRR.out] at h9; exact h9.take
        have hx := run_copy_sized (P := Tryd.prog) w3.drew 27 27 ty 5 1 Tryd.underlying27 sz5 g p (n + m - p) dc ⟨b, s, none⟩ q sc (cells pre) cur 5 HS.out.hg (by rw [cells_length, HQ.out, hmin, Nat.mul_one]) (fun j v hj => by rw [show (⟨b, s, none⟩ : Addr).add j = ⟨b, s + j, none⟩ by unfold Addr.add; split <;> simp_all]; exact hpr.cells j v hj) (by rw [cells_length, HQ.out, HS.out.hcur]; omega) (cells_one pre)
        rw [hmin] at hx
        exact hx⟩
      go_region_held3 (fun w' => True) (trivial)
        ((refine copy_step (v' := .int .i64 q) (w' := w3.drew.setCells g p (cells pre)) _ ?hw (.tmp 61) (.tmp 65) 27 27 ?ho (.slice (some ⟨g, p, none⟩) (n + m - p) (n + m - p)) (.slice (some ⟨b, s, none⟩) q (c - s)) ?hd ?hs2 ?hr ?_; (case hw => rfl); (case ho => rfl); (case hd => rfl); (case hs2 => rfl); (case hr => exact HC1.out _ _ _)))
      obtain ⟨W1, hW1⟩ : ∃ W1, W1 = w3.drew.setCells g p (cells pre) := ⟨_, rfl⟩
      rw [← hW1]
      have HW1 := Aside0.mk hW1
      have hf1 : p + (cells pre).length ≤ cur.length := by rw [cells_length, HQ.out, HS.out.hcur]; omega
      have HG1 : Aside0 (W1.heap[g]? = some (.cells (splice cur p (cells pre)).toArray 5 (0, 0))) := ⟨by rw [HW1.out]; exact setCells_blk (w := w3.drew) HS.out.hg hf1⟩
      have HL1 : Aside0 ((splice cur p (cells pre)).length = n + m) := ⟨by rw [length_splice _ _ _ hf1, HS.out.hcur]⟩
      have HBW1 : Aside0 (Below w1.heap.size w1 W1) := ⟨by rw [HW1.out]; exact setCells_below HB.out.drew (by rw [HGG.out]; exact Nat.le_refl _)⟩
      have HC2 : Aside0 (∀ ty dc, (Builtin.copy_ #[27, 27] ty #[.slice (some ⟨g, p + q, none⟩) (n + m - (p + q)) dc, .slice (some ⟨nb, 0, none⟩) 2 2]).run Tryd.prog W1 = .ok (.int .i64 2) (W1.setCells g (p + q) (cells [0, 255]))) := ⟨fun ty dc => by
        have hmin : Nat.min 2 (n + m - (p + q)) = 2 := Nat.min_eq_left (by omega)
        have hx := run_copy_sized (P := Tryd.prog) W1 27 27 ty 5 1 Tryd.underlying27 sz5 g (p + q) (n + m - (p + q)) dc ⟨nb, 0, none⟩ 2 2 (cells [0, 255]) _ 5 HG1.out (by rw [hmin]; rfl) (fun j v hj => by rw [show (⟨nb, 0, none⟩ : Addr).add j = ⟨nb, 0 + j, none⟩ by unfold Addr.add; split <;> simp_all]; exact (HN.out.below HBW1.out).cells j v hj) (by rw [HL1.out]; exact b2) (cells_one _)
        rw [hmin] at hx
        exact hx⟩
      clear hW1 hf1
      go_wp2_with (with_reducible refine wpList_copy_run W1 rfl (.tmp 71) (.tmp 72) 27 27 rfl _ _ rfl rfl (HC2.out _ _) ?_)
      go_roundw
      case rel =>
        have hst := (show RepAt w3.drew g bs (n + m) s p k dn (pre ++ 0 :: post) cur from HRR.out ▸ ⟨HS.out.eq, HS.out.hs, HS.out.hk, HS.out.hp, HS.out.hg, HS.out.hcur, HS.out.htake⟩).step HPR.out HQ.out b2
        rw [← HW1.out] at hst
        obtain ⟨cur', h9⟩ := hst
        exact ⟨s + q + 1, p + q + 2, k + 1, _, _, cur', by omega, by omega, by omega, by go_num, by go_num, by go_num, ⟨h9⟩, ⟨setCells_below HBW1.out (by rw [HGG.out]; exact Nat.le_refl _)⟩⟩
      case measure => simp [intOf]; omega
    · obtain rfl : k = m := by omega
      have h4' : decide (k < k) = false := df (by omega)
      have hrc : rest.count 0 = 0 := by omega
      have hrl : rest.length = n - s := by omega
      have hps : p = s + k := t3
      obtain ⟨q, hq⟩ : ∃ q, rest.length = q := ⟨_, rfl⟩
      have HRC := Aside0.mk hrc
      have HQ := Aside0.mk hq
      have HBS : Aside0 (BsAt wr b s rest) := ⟨by
        have h9 := H.out.below HB.out
        rw [HS.out.eq] at h9
        have h8 := h9.drop
        rwa [HS.out.hs, Nat.zero_add] at h8⟩
      have f1 : (s : Int) ≤ (n : Int) := by omega
      have f2 : (n : Int) ≤ (c : Int) := by omega
      have f3 : (s : Int) ≤ (c : Int) := by omega
      have g1 : (p : Int) ≤ (n : Int) + (k : Int) := by omega
      rcases Nat.eq_zero_or_pos q with hq0 | hq0
      · have HC0 : Aside0 (∀ W ty dp dc sp sc, (Builtin.copy_ #[27, 27] ty #[.slice dp 0 dc, .slice sp 0 sc]).run Tryd.prog W = .ok (.int .i64 0) W) := ⟨fun W ty dp dc sp sc => run_copy_none_sized (P := Tryd.prog) W 27 27 ty 5 1 Tryd.underlying27 sz5 dp 0 dc sp 0 sc rfl⟩
        obtain rfl : n = s := by omega
        obtain rfl : p = n + k := by omega
        have HR0 : Aside0 (rest = []) := ⟨List.eq_nil_of_length_eq_zero (by omega)⟩
        have g3 : IntKind.i64.wrap ((n : Int) + (k : Int) + 0) = (n : Int) + (k : Int) := by rw [IntKind.wrap_i64]; omega
        have f9 : (0 : Int) ≤ (n : Int) + (k : Int) := by omega
        have f10 : ((n : Int) + (k : Int)).toNat = n + k := by omega
        clear t1 t2 t3 hrc hrl hps hq hlt hq0
        rcases Nat.lt_or_ge n c with hcn | hcn
        · have f4 : ¬ c = n := by omega
          go_wp2_with fail
          go_region_held3 (fun w' => True) (trivial)
            ((refine copy_step (v' := .int .i64 0) (w' := wr.drew) _ ?hw (.tmp 123) (.tmp 126) 27 27 ?ho (.slice (some ⟨g, 0, none⟩) 0 0) (.slice (some ⟨b, n, none⟩) 0 (c - n)) ?hd ?hs2 ?hr ?_; (case hw => rfl); (case ho => rfl); (case hd => rfl); (case hs2 => rfl); (case hr => exact HC0.out _ _ _ _ _ _)))
          go_wp2_with fail
          go_ret
          exact ⟨_, rfl, RepAt.doneNil (w := wr.drew) ⟨HS.out.eq, HS.out.hs, HS.out.hk, HS.out.hp, HS.out.hg, HS.out.hcur, HS.out.htake⟩ HR0.out rfl (by rw [HGG.out]; exact Nat.le_refl _) (by unfold maxLen; omega), HB.out.drew⟩
        · obtain rfl : n = c := by omega
          go_wp2_with fail
          go_region_held3 (fun w' => True) (trivial)
            ((refine copy_step (v' := .int .i64 0) (w' := wr.drew) _ ?hw (.tmp 123) (.tmp 126) 27 27 ?ho (.slice (some ⟨g, 0, none⟩) 0 0) (.slice (some ⟨b, 0, none⟩) 0 0) ?hd ?hs2 ?hr ?_; (case hw => rfl); (case ho => rfl); (case hd => rfl); (case hs2 => rfl); (case hr => exact HC0.out _ _ _ _ _ _)))
          go_wp2_with fail
          go_ret
          exact ⟨_, rfl, RepAt.doneNil (w := wr.drew) ⟨HS.out.eq, HS.out.hs, HS.out.hk, HS.out.hp, HS.out.hg, HS.out.hcur, HS.out.htake⟩ HR0.out rfl (by rw [HGG.out]; exact Nat.le_refl _) (by unfold maxLen; omega), HB.out.drew⟩
      · have f4 : ¬ c = s := by omega
        have f5 : ¬ n + k = p := by omega
        have f6 : n - s = q := by omega
        have f7 : n + k - p = q := by omega
        have g3 : IntKind.i64.wrap ((p : Int) + (q : Int)) = (p : Int) + (q : Int) := by rw [IntKind.wrap_i64]; omega
        have f8 : (p : Int) + (q : Int) ≤ (n : Int) + (k : Int) := by omega
        have f9 : (0 : Int) ≤ (p : Int) + (q : Int) := by omega
        have f10 : ((p : Int) + (q : Int)).toNat = p + q := by omega
        have hpq : p + q = n + k := by omega
        have HPQ := Aside0.mk hpq
        have HC1 : Aside0 (∀ ty dc sc, (Builtin.copy_ #[27, 27] ty #[.slice (some ⟨g, p, none⟩) q dc, .slice (some ⟨b, s, none⟩) q sc]).run Tryd.prog wr.drew = .ok (.int .i64 q) (wr.drew.setCells g p (cells rest))) := ⟨fun ty dc sc => by
          have hmin : Nat.min q q = q := Nat.min_self q
          have hx := run_copy_sized (P := Tryd.prog) wr.drew 27 27 ty 5 1 Tryd.underlying27 sz5 g p q dc ⟨b, s, none⟩ q sc (cells rest) cur 5 HS.out.hg (by rw [cells_length, HQ.out, hmin, Nat.mul_one]) (fun j v hj => by rw [show (⟨b, s, none⟩ : Addr).add j = ⟨b, s + j, none⟩ by unfold Addr.add; split <;> simp_all]; exact HBS.out.cells j v hj) (by rw [cells_length, HQ.out, HS.out.hcur]; omega) (cells_one rest)
          rw [hmin] at hx
          exact hx⟩
        clear t1 t2 t3 hrc hrl hps hq hlt hpq
        go_wp2_with fail
        go_region_held3 (fun w' => True) (trivial)
          ((refine copy_step (v' := .int .i64 q) (w' := wr.drew.setCells g p (cells rest)) _ ?hw (.tmp 123) (.tmp 126) 27 27 ?ho (.slice (some ⟨g, p, none⟩) q q) (.slice (some ⟨b, s, none⟩) q (c - s)) ?hd ?hs2 ?hr ?_; (case hw => rfl); (case ho => rfl); (case hd => rfl); (case hs2 => rfl); (case hr => exact HC1.out _ _ _)))
        go_wp2_with fail
        go_ret
        exact ⟨_, rfl, RepAt.done (w := wr.drew) ⟨HS.out.eq, HS.out.hs, HS.out.hk, HS.out.hp, HS.out.hg, HS.out.hcur, HS.out.htake⟩ HRC.out HQ.out HPQ.out (by rw [HGG.out]; exact Nat.le_refl _) (by unfold maxLen; omega), setCells_below HB.out.drew (by rw [HGG.out]; exact Nat.le_refl _)⟩
end Go.Proofs.YtfdnpnaacikgdaaDoor
