/- Words and walks for Split and Tablet: texts of these sessions, and of the kit's print, cut down to what is used (Cd Ce Cf). -/
import Derived.Test.YtpckachmleonlaaGreatDoorCut20
import Derived.Deep.RegionHeld3
import Derived.Laws.MakeOwn
import Derived.Lib.ConvBytes
section
set_option linter.unusedVariables false
set_option linter.unusedSimpArgs false
namespace Go.Proofs.YtpckachmleonlaaGreatDoor.Cp
open Go.RowKit Go.Proofs.YtpckachmleonlaaGreatDoorW.PrintWords
theorem info5 : (Tryz.prog.info? 5).map (fun i => (i.zero, i.size, i.bytes)) = some (some (.int .u8 0), 1, 1) := by kernel_rfl
theorem sz5 : (Tryz.prog.info? 5).map (·.size) = some 1 := by kernel_rfl
section
variable {P : Program}
theorem copy_step (w : World) {ops : Array Oper} {o : Oper} {a : Act} {K : Act → World → Prop} {Q : Exit → Act → World → Prop} (hw : Region.wanted o (yielded ops a.tmps) = true) (d s : Operand) (t t' : TypeId)
  (ho : o.op = .call { callee := .builtin .copy, args := #[d, s], argTypes := #[t, t'] }) (v u : Value) (hd : a.eval d = v) (hs : a.eval s = u) {v' : Value} {w' : World}
  (hr : (Builtin.copy_ #[t, t'] o.type #[v, u]).run P w = .ok v' w') (h : K (a.put o.dst v') w') : if Region.wanted o (yielded ops a.tmps) = true then Oper.wp P o a w K Q else K (a.put o.dst undef) w := by
 rw [if_pos hw]
 exact wp_copy_run w d s t t' ho v u hd hs hr h
end
theorem splice_upto {α : Type} (L : List α) (off : Nat) (cs : List α) (h : off ≤ L.length) : (splice L off cs).take (off + cs.length) = L.take off ++ cs := by
 unfold splice
 rw [← List.append_assoc, List.take_left' (by rw [List.length_append, List.length_take]; omega)]
theorem BsAt.below {w w' : World} {b o : Nat} {bs : List UInt8} (h : BsAt w b o bs) (hb : Below w.heap.size w w') : BsAt w' b o bs := fun i hi => (hb.cell (World.block_lt_of_cell? w _ (h i hi))).trans (h i hi)
structure RepAt (w : World) (g : Nat) (bs : List UInt8) (tot s p k : Nat) (dn rest : List UInt8) (cur : List Value) : Prop where
 eq : bs = dn ++ rest
 hs : dn.length = s
 hk : dn.count 0 = k
 hp : (rep dn).length = p
 hg : w.heap[g]? = some (.cells cur.toArray 5 (0, 0))
 hcur : cur.length = tot
 htake : cur.take p = cells (rep dn)
theorem RepAt.bound {w : World} {g : Nat} {bs : List UInt8} {n m s p k : Nat} {dn rest : List UInt8} {cur : List Value} (h : RepAt w g bs (n + m) s p k dn rest cur) (hn : bs.length = n) (hm : bs.count 0 = m) : s + rest.length = n ∧ k + rest.count 0 = m ∧ p = s + k := by
 have e := h.eq
 subst e
 rw [List.length_append, h.hs] at hn
 rw [List.count_append, h.hk] at hm
 have := h.hp
 rw [rep_length, h.hs, h.hk] at this
 exact ⟨hn, hm, this.symm⟩
theorem RepAt.step {w : World} {g : Nat} {bs : List UInt8} {tot s p k : Nat} {dn pre post : List UInt8} {cur : List Value} (h : RepAt w g bs tot s p k dn (pre ++ 0 :: post) cur) (h0 : pre.count 0 = 0) {q : Nat} (hq : pre.length = q) (hfit : p + q + 2 ≤ tot) :
  ∃ cur', RepAt ((w.setCells g p (cells pre)).setCells g (p + q) (cells [0, 255])) g bs tot (s + q + 1) (p + q + 2) (k + 1) (dn ++ pre ++ [0]) post cur' := by
 subst hq
 have hf1 : p + (cells pre).length ≤ cur.length := by rw [zDe, h.hcur]; omega
 have h1 := zD (cs := cells pre) h.hg hf1
 have hl1 := length_splice cur p (cells pre) hf1
 have hf2 : p + pre.length + (cells [0, 255]).length ≤ (splice cur p (cells pre)).length := by rw [hl1, h.hcur]; exact hfit
 have h2 := zD (cs := cells [0, 255]) h1 hf2
 refine ⟨_, by rw [h.eq]; simp, by simp [h.hs]; omega, by simp [h.hk, h0], by rw [rep_append, rep_append, rep_none h0]; simp [h.hp, rep]; omega, h2, by rw [length_splice _ _ _ hf2, hl1, h.hcur], ?_⟩
 have hp2 : p ≤ cur.length := by rw [h.hcur]; omega
 have e1 := splice_upto cur p (cells pre) hp2
 have e2 := splice_upto (splice cur p (cells pre)) (p + pre.length) (cells [0, 255]) (by rw [hl1, h.hcur]; omega)
 rw [zDe] at e1
 change List.take (p + pre.length + 2) _ = _ at e2
 rw [e1] at e2
 rw [e2, h.htake, rep_append, rep_append, rep_none h0, cells_append, cells_append]
 rfl
theorem RepAt.done {w : World} {g base : Nat} {bs : List UInt8} {tot s p k q : Nat} {dn rest : List UInt8} {cur : List Value} (h : RepAt w g bs tot s p k dn rest cur) (h0 : rest.count 0 = 0) (hq : rest.length = q) (ht : p + q = tot) (hb : base ≤ g) (hm : tot ≤ maxLen) :
  (w.setCells g p (cells rest)).ownsRow base 5 1 (.slice (some ⟨g, 0, none⟩) (p + q) tot) (rep bs).length (cells (rep bs)) := by
 have hr : rep bs = rep dn ++ rest := by rw [h.eq, rep_append, rep_none h0]
 have hl : (rep bs).length = p + q := by rw [hr, List.length_append, h.hp, hq]
 have hf : p + (cells rest).length ≤ cur.length := by rw [zDe, hq, h.hcur]; omega
 rw [hl]
 refine ⟨by rw [zDe, hl, Nat.mul_one], .inr ⟨g, tot, _, rfl, hb, zD h.hg hf, by omega, hm, ?_, ?_⟩⟩
 ·rw [List.size_toArray, length_splice _ _ _ hf, h.hcur, Nat.mul_one]
 ·rw [List.toList_toArray, Nat.mul_one, hr, cells_append, ← h.htake]
  have := splice_upto cur p (cells rest) (by rw [h.hcur]; omega)
  rwa [zDe, hq] at this
theorem RepAt.doneNil {w : World} {g base : Nat} {bs : List UInt8} {tot s p k : Nat} {dn rest : List UInt8} {cur : List Value} (h : RepAt w g bs tot s p k dn rest cur) (h0 : rest = []) (ht : p = tot) (hb : base ≤ g) (hm : tot ≤ maxLen) :
  w.ownsRow base 5 1 (.slice (some ⟨g, 0, none⟩) tot tot) (rep bs).length (cells (rep bs)) := by
 subst h0 ht
 have hr : rep bs = rep dn := by rw [h.eq, List.append_nil]
 have hl : (rep bs).length = p := by rw [hr, h.hp]
 rw [hl]
 refine ⟨by rw [zDe, hl, Nat.mul_one], .inr ⟨g, p, _, rfl, hb, h.hg, by omega, hm, ?_, ?_⟩⟩
 ·rw [List.size_toArray, h.hcur, Nat.mul_one]
 ·rw [List.toList_toArray, Nat.mul_one, hr, ← h.htake]
set_option maxHeartbeats 4000000 in
set_option maxRecDepth 100000 in
theorem replace_some (b n c ob nb : Nat) (bs : List UInt8) (w : World) (hn : bs.length = n) (hc : n ≤ c) (hl : n ≤ 1000000) (h : BsAt w b 0 bs) (ho : BsAt w ob 0 [0]) (hnw : BsAt w nb 0 [0, 255]) (h0 : bs.count 0 ≠ 0) :
  Calls Tryz.prog 173 #[.slice (some ⟨b, 0, none⟩) n c, .slice (some ⟨ob, 0, none⟩) 1 1, .slice (some ⟨nb, 0, none⟩) 2 2, .int .i64 (-1)] w fun e w' => ∃ v, e = .returned v ∧ w'.ownsRow w.heap.size 5 1 v (rep bs).length (cells (rep bs)) ∧ Below w.heap.size w w' := by
 have H := zA.mk h
 have HO := zA.mk ho
 have HN := zA.mk hnw
 obtain ⟨m, hm⟩ : ∃ m, bs.count 0 = m := ⟨_, rfl⟩
 have HM := zA.mk hm
 have hml : m ≤ n := by rw [← hm, ← hn]; exact List.count_le_length
 rw [hm] at h0
 have e0 : ((m : Int) == 0) = false := by simp; omega
 have hnn := zA.mk hn
 obtain ⟨i0, hi0, hz0⟩ := Option.map_eq_some_iff.1 info5
 simp only [Prod.mk.injEq] at hz0
 have hmk := fun W => run_make (P := Tryz.prog) W 47 5 i0 _ Tryz.underlying47 hi0 hz0.1 .i64 .i64 ((n : Int) + m) ((n : Int) + m) (by omega) (by omega) (by rw [hz0.2.2]; omega) (by omega)
 have hto : ((n : Int) + (m : Int)).toNat = n + m := by omega
 simp only [hz0.2.1, hto] at hmk
 have HMK := zA.mk hmk
 clear h ho hnw hm hn hi0 hz0 hmk hto
 go_enter Tryz.func173, Tryz.ntmps173
 go_wp2_with (go_at_call 177; refine (count1_any b 0 n c ob bs 0 _ hnn.out H.out HO.out).mono ?_; rintro e w1 ⟨rfl, hw1⟩; rw [HM.out]; subst hw1)
 rw [HMK.out]
 simp only [Result.andThen]
 rw [Oper.upon_value]
 obtain ⟨cur0, hcur0⟩ : ∃ cur0 : List Value, madeCells (Value.int .u8 0).cells ((n + m) * 1) = cur0.toArray := ⟨_, rfl⟩
 have hcl0 : cur0.length = n + m := by
  have := congrArg Array.size hcur0
  rw [size_madeCells] at this
  simpa using this.symm
 rw [hcur0]
 have HS0 : zA (RepAt (w1.alloc (.cells cur0.toArray 5)) w1.heap.size bs (n + m) 0 0 0 [] bs cur0) := ⟨⟨rfl, rfl, rfl, rfl, heap_alloc_new w1 _, hcl0, by simp [rep, cells]⟩⟩
 have HB0 : zA (Below w1.heap.size w1 (w1.alloc (.cells cur0.toArray 5))) := ⟨(Below.refl _ _).alloc (Nat.le_refl _) _⟩
 generalize w1.alloc (.cells cur0.toArray 5) = w2 at HS0 HB0 ⊢
 clear hcur0 hcl0
 have HG : zA (w1.heap.size = w1.heap.size) := ⟨rfl⟩
 obtain ⟨g, hg⟩ : ∃ g, w1.heap.size = g := ⟨_, rfl⟩
 have HGG := zA.mk hg
 rw [hg] at HS0 ⊢
 go_wp2_with fail
 go_loopw [11, 12, 13, 49] (fun vp vs vj vk w' => ∃ (s p k : Nat) (dn rest : List UInt8) (cur : List Value), s ≤ n ∧ k ≤ m ∧ p ≤ n + m ∧ vp = .int .i64 p ∧ vs = .int .i64 s ∧ vk = .int .i64 k ∧ zA (RepAt w' g bs (n + m) s p k dn rest cur) ∧ zA (Below w1.heap.size w1 w')) (fun _ _ _ vk _ => m - (intOf vk).toNat)
 case atStart => exact ⟨0, 0, 0, [], bs, cur0, by omega, by omega, by omega, rfl, rfl, rfl, HS0, HB0⟩
 case round =>
  obtain ⟨s, p, k, dn, rest, cur, hsn, hkm, hpt, rfl, rfl, rfl, HS, HB⟩ := hrel
  obtain ⟨t1, t2, t3⟩ := HS.out.bound hnn.out HM.out
  by_cases hlt : k < m
  ·have h4 : (k : Int) < (m : Int) := by omega
   have h4' : decide (k < m) = true := dt hlt
   obtain ⟨pre, post, hr, hpre, hix⟩ := first_zero (a := rest) (by omega)
   obtain ⟨q, hq⟩ : ∃ q, pre.length = q := ⟨_, rfl⟩
   have hrl : rest.length = q + 1 + post.length := by rw [hr, List.length_append, List.length_cons, hq]; omega
   rw [hq] at hix
   have hrc : rest.count 0 = 1 + post.count 0 := by rw [hr, List.count_append, hpre, List.count_cons]; simp; omega
   have b1 : s + q + 1 ≤ n := by omega
   have b2 : p + q + 2 ≤ n + m := by omega
   have HIX := zA.mk hix
   have HRL : zA (rest.length = n - s) := ⟨by omega⟩
   have HBS : zA (BsAt wr b s rest) := ⟨by
    have h9 := H.out.below HB.out
    rw [HS.out.eq] at h9
    have h8 := h9.drop
    rwa [HS.out.hs, Nat.zero_add] at h8⟩
   have HOB : zA (BsAt wr ob 0 [0]) := ⟨HO.out.below HB.out⟩
   have f1 : (s : Int) ≤ (n : Int) := by omega
   have f2 : (n : Int) ≤ (c : Int) := by omega
   have f3 : (s : Int) ≤ (c : Int) := by omega
   have f4 : ¬ c - s = 0 := by omega
   have f5 : (s : Int) ≤ (s : Int) + (q : Int) := by omega
   have f6 : (s : Int) + (q : Int) ≤ (c : Int) := by omega
   have f7 : ((s : Int) + (q : Int)).toNat = s + q := by omega
   have f8 : IntKind.i64.wrap ((s : Int) + (q : Int)) = (s : Int) + (q : Int) := by rw [IntKind.wrap_i64]; omega
   have f9 : (0 : Int) ≤ (s : Int) + (q : Int) := by omega
   have g1 : (p : Int) ≤ (n : Int) + (m : Int) := by omega
   have g2 : ¬ n + m - p = 0 := by omega
   have g3 : IntKind.i64.wrap ((p : Int) + (q : Int)) = (p : Int) + (q : Int) := by rw [IntKind.wrap_i64]; omega
   have g4 : (0 : Int) ≤ (p : Int) + (q : Int) := by omega
   have g5 : ((p : Int) + (q : Int)).toNat = p + q := by omega
   have g6 : (p : Int) + (q : Int) ≤ (n : Int) + (m : Int) := by omega
   have g7 : ¬ n + m - (p + q) = 0 := by omega
   have g8 : ¬ n + m = p := by omega
   have g9 : ¬ c = s := by omega
   have g10 : ¬ n + m = p + q := by omega
   have HRR := zA.mk hr
   have HPR := zA.mk hpre
   have HQ := zA.mk hq
   clear t1 t2 t3 hr hpre hix hrl hrc hq
   go_wp2_with (go_at_call 178; refine (index1_any b s (n - s) _ ob rest 0 _ HRL.out HBS.out HOB.out).mono ?_; rintro e w3 ⟨rfl, hw3⟩; rw [HIX.out]; subst hw3)
   have HC1 : zA (∀ ty dc sc, (Builtin.copy_ #[47, 47] ty #[.slice (some ⟨g, p, none⟩) (n + m - p) dc, .slice (some ⟨b, s, none⟩) q sc]).run Tryz.prog w3.drew = .ok (.int .i64 q) (w3.drew.setCells g p (cells pre))) := ⟨fun ty dc sc => by
    have hmin : Nat.min q (n + m - p) = q := Nat.min_eq_left (by omega)
    have hpr : BsAt w3 b s pre := by have h9 := HBS.out; rw [HRR.out] at h9; exact h9.take
    have hx := zCe (P := Tryz.prog) w3.drew 47 47 ty 5 1 Tryz.underlying47 sz5 g p (n + m - p) dc ⟨b, s, none⟩ q sc (cells pre) cur 5 HS.out.hg (by rw [zDe, HQ.out, hmin, Nat.mul_one]) (fun j v hj => by rw [show (⟨b, s, none⟩ : Addr).add j = ⟨b, s + j, none⟩ by unfold Addr.add; split <;> simp_all]; exact hpr.cells j v hj) (by rw [zDe, HQ.out, HS.out.hcur]; omega) (cells_one pre)
    rw [hmin] at hx
    exact hx⟩
   go_region_held3 (fun w' => True) (trivial)
    ((refine copy_step (v' := .int .i64 q) (w' := w3.drew.setCells g p (cells pre)) _ ?hw (.tmp 61) (.tmp 65) 47 47 ?ho (.slice (some ⟨g, p, none⟩) (n + m - p) (n + m - p)) (.slice (some ⟨b, s, none⟩) q (c - s)) ?hd ?hs2 ?hr ?_; (case hw => rfl); (case ho => rfl); (case hd => rfl); (case hs2 => rfl); (case hr => exact HC1.out _ _ _)))
   obtain ⟨W1, hW1⟩ : ∃ W1, W1 = w3.drew.setCells g p (cells pre) := ⟨_, rfl⟩
   rw [← hW1]
   have HW1 := zA.mk hW1
   have hf1 : p + (cells pre).length ≤ cur.length := by rw [zDe, HQ.out, HS.out.hcur]; omega
   have HG1 : zA (W1.heap[g]? = some (.cells (splice cur p (cells pre)).toArray 5 (0, 0))) := ⟨by rw [HW1.out]; exact zD (w := w3.drew) HS.out.hg hf1⟩
   have HL1 : zA ((splice cur p (cells pre)).length = n + m) := ⟨by rw [length_splice _ _ _ hf1, HS.out.hcur]⟩
   have HBW1 : zA (Below w1.heap.size w1 W1) := ⟨by rw [HW1.out]; exact zCh HB.out.drew (by rw [HGG.out]; exact Nat.le_refl _)⟩
   have HC2 : zA (∀ ty dc, (Builtin.copy_ #[47, 47] ty #[.slice (some ⟨g, p + q, none⟩) (n + m - (p + q)) dc, .slice (some ⟨nb, 0, none⟩) 2 2]).run Tryz.prog W1 = .ok (.int .i64 2) (W1.setCells g (p + q) (cells [0, 255]))) := ⟨fun ty dc => by
    have hmin : Nat.min 2 (n + m - (p + q)) = 2 := Nat.min_eq_left (by omega)
    have hx := zCe (P := Tryz.prog) W1 47 47 ty 5 1 Tryz.underlying47 sz5 g (p + q) (n + m - (p + q)) dc ⟨nb, 0, none⟩ 2 2 (cells [0, 255]) _ 5 HG1.out (by rw [hmin]; rfl) (fun j v hj => by rw [show (⟨nb, 0, none⟩ : Addr).add j = ⟨nb, 0 + j, none⟩ by unfold Addr.add; split <;> simp_all]; exact (HN.out.below HBW1.out).cells j v hj) (by rw [HL1.out]; exact b2) (cells_one _)
    rw [hmin] at hx
    exact hx⟩
   clear hW1 hf1
   go_wp2_with (with_reducible refine wpList_copy_run W1 rfl (.tmp 71) (.tmp 72) 47 47 rfl _ _ rfl rfl (HC2.out _ _) ?_)
   go_roundw
   case rel =>
    have hst := (show RepAt w3.drew g bs (n + m) s p k dn (pre ++ 0 :: post) cur from HRR.out ▸ ⟨HS.out.eq, HS.out.hs, HS.out.hk, HS.out.hp, HS.out.hg, HS.out.hcur, HS.out.htake⟩).step HPR.out HQ.out b2
    rw [← HW1.out] at hst
    obtain ⟨cur', h9⟩ := hst
    exact ⟨s + q + 1, p + q + 2, k + 1, _, _, cur', by omega, by omega, by omega, by go_num, by go_num, by go_num, ⟨h9⟩, ⟨zCh HBW1.out (by rw [HGG.out]; exact Nat.le_refl _)⟩⟩
   case measure => simp [intOf]; omega
  ·obtain rfl : k = m := by omega
   have h4' : decide (k < k) = false := df (by omega)
   have hrc : rest.count 0 = 0 := by omega
   have hrl : rest.length = n - s := by omega
   have hps : p = s + k := t3
   obtain ⟨q, hq⟩ : ∃ q, rest.length = q := ⟨_, rfl⟩
   have HRC := zA.mk hrc
   have HQ := zA.mk hq
   have HBS : zA (BsAt wr b s rest) := ⟨by
    have h9 := H.out.below HB.out
    rw [HS.out.eq] at h9
    have h8 := h9.drop
    rwa [HS.out.hs, Nat.zero_add] at h8⟩
   have f1 : (s : Int) ≤ (n : Int) := by omega
   have f2 : (n : Int) ≤ (c : Int) := by omega
   have f3 : (s : Int) ≤ (c : Int) := by omega
   have g1 : (p : Int) ≤ (n : Int) + (k : Int) := by omega
   rcases Nat.eq_zero_or_pos q with hq0 | hq0
   ·have HC0 : zA (∀ W ty dp dc sp sc, (Builtin.copy_ #[47, 47] ty #[.slice dp 0 dc, .slice sp 0 sc]).run Tryz.prog W = .ok (.int .i64 0) W) := ⟨fun W ty dp dc sp sc => run_copy_none_sized (P := Tryz.prog) W 47 47 ty 5 1 Tryz.underlying47 sz5 dp 0 dc sp 0 sc rfl⟩
    obtain rfl : n = s := by omega
    obtain rfl : p = n + k := by omega
    have HR0 : zA (rest = []) := ⟨List.eq_nil_of_length_eq_zero (by omega)⟩
    have g3 : IntKind.i64.wrap ((n : Int) + (k : Int) + 0) = (n : Int) + (k : Int) := by rw [IntKind.wrap_i64]; omega
    have f9 : (0 : Int) ≤ (n : Int) + (k : Int) := by omega
    have f10 : ((n : Int) + (k : Int)).toNat = n + k := by omega
    clear t1 t2 t3 hrc hrl hps hq hlt hq0
    rcases Nat.lt_or_ge n c with hcn | hcn
    ·have f4 : ¬ c = n := by omega
     go_wp2_with fail
     go_region_held3 (fun w' => True) (trivial)
      ((refine copy_step (v' := .int .i64 0) (w' := wr.drew) _ ?hw (.tmp 123) (.tmp 126) 47 47 ?ho (.slice (some ⟨g, 0, none⟩) 0 0) (.slice (some ⟨b, n, none⟩) 0 (c - n)) ?hd ?hs2 ?hr ?_; (case hw => rfl); (case ho => rfl); (case hd => rfl); (case hs2 => rfl); (case hr => exact HC0.out _ _ _ _ _ _)))
     go_wp2_with fail
     go_ret
     exact ⟨_, rfl, RepAt.doneNil (w := wr.drew) ⟨HS.out.eq, HS.out.hs, HS.out.hk, HS.out.hp, HS.out.hg, HS.out.hcur, HS.out.htake⟩ HR0.out rfl (by rw [HGG.out]; exact Nat.le_refl _) (by unfold maxLen; omega), HB.out.drew⟩
    ·obtain rfl : n = c := by omega
     go_wp2_with fail
     go_region_held3 (fun w' => True) (trivial)
      ((refine copy_step (v' := .int .i64 0) (w' := wr.drew) _ ?hw (.tmp 123) (.tmp 126) 47 47 ?ho (.slice (some ⟨g, 0, none⟩) 0 0) (.slice (some ⟨b, 0, none⟩) 0 0) ?hd ?hs2 ?hr ?_; (case hw => rfl); (case ho => rfl); (case hd => rfl); (case hs2 => rfl); (case hr => exact HC0.out _ _ _ _ _ _)))
     go_wp2_with fail
     go_ret
     exact ⟨_, rfl, RepAt.doneNil (w := wr.drew) ⟨HS.out.eq, HS.out.hs, HS.out.hk, HS.out.hp, HS.out.hg, HS.out.hcur, HS.out.htake⟩ HR0.out rfl (by rw [HGG.out]; exact Nat.le_refl _) (by unfold maxLen; omega), HB.out.drew⟩
   ·have f4 : ¬ c = s := by omega
    have f5 : ¬ n + k = p := by omega
    have f6 : n - s = q := by omega
    have f7 : n + k - p = q := by omega
    have g3 : IntKind.i64.wrap ((p : Int) + (q : Int)) = (p : Int) + (q : Int) := by rw [IntKind.wrap_i64]; omega
    have f8 : (p : Int) + (q : Int) ≤ (n : Int) + (k : Int) := by omega
    have f9 : (0 : Int) ≤ (p : Int) + (q : Int) := by omega
    have f10 : ((p : Int) + (q : Int)).toNat = p + q := by omega
    have hpq : p + q = n + k := by omega
    have HPQ := zA.mk hpq
    have HC1 : zA (∀ ty dc sc, (Builtin.copy_ #[47, 47] ty #[.slice (some ⟨g, p, none⟩) q dc, .slice (some ⟨b, s, none⟩) q sc]).run Tryz.prog wr.drew = .ok (.int .i64 q) (wr.drew.setCells g p (cells rest))) := ⟨fun ty dc sc => by
     have hmin : Nat.min q q = q := Nat.min_self q
     have hx := zCe (P := Tryz.prog) wr.drew 47 47 ty 5 1 Tryz.underlying47 sz5 g p q dc ⟨b, s, none⟩ q sc (cells rest) cur 5 HS.out.hg (by rw [zDe, HQ.out, hmin, Nat.mul_one]) (fun j v hj => by rw [show (⟨b, s, none⟩ : Addr).add j = ⟨b, s + j, none⟩ by unfold Addr.add; split <;> simp_all]; exact HBS.out.cells j v hj) (by rw [zDe, HQ.out, HS.out.hcur]; omega) (cells_one rest)
     rw [hmin] at hx
     exact hx⟩
    clear t1 t2 t3 hrc hrl hps hq hlt hpq
    go_wp2_with fail
    go_region_held3 (fun w' => True) (trivial)
     ((refine copy_step (v' := .int .i64 q) (w' := wr.drew.setCells g p (cells rest)) _ ?hw (.tmp 123) (.tmp 126) 47 47 ?ho (.slice (some ⟨g, p, none⟩) q q) (.slice (some ⟨b, s, none⟩) q (c - s)) ?hd ?hs2 ?hr ?_; (case hw => rfl); (case ho => rfl); (case hd => rfl); (case hs2 => rfl); (case hr => exact HC1.out _ _ _)))
    go_wp2_with fail
    go_ret
    exact ⟨_, rfl, RepAt.done (w := wr.drew) ⟨HS.out.eq, HS.out.hs, HS.out.hk, HS.out.hp, HS.out.hg, HS.out.hcur, HS.out.htake⟩ HRC.out HQ.out HPQ.out (by rw [HGG.out]; exact Nat.le_refl _) (by unfold maxLen; omega), zCh HB.out.drew (by rw [HGG.out]; exact Nat.le_refl _)⟩
end Go.Proofs.YtpckachmleonlaaGreatDoor.Cp
end
section
set_option linter.unusedVariables false
set_option linter.unusedSimpArgs false
namespace Go.Proofs.YtpckachmleonlaaGreatDoor.Cp
open Go.RowKit Go.Proofs.YtpckachmleonlaaGreatDoorW.PrintWords
abbrev kB : Kd Int := Kd.int .u8
theorem cells_encs (bs : List UInt8) : cells bs = encs (Value.int .u8) (nums bs) := by
  unfold cells encs nums
  rw [List.map_map]
  rfl
theorem R_cells {w : World} {base e : Nat} {v : Value} {bs : List UInt8} {n : Nat} (hn : n = bs.length) (h : w.ownsRow base e 1 v n (cells bs)) : Kd.R kB e w base (fun _ => True) v (nums bs) := by
  subst hn
  refine Kd.R_of_own ?_ (fun _ _ => trivial)
  rw [nums_length, ← cells_encs]
  exact h
theorem C_bsAt {w : World} {b o : Nat} {bs : List UInt8} (h : BsAt w b o bs) (hm : bs.length ≤ 9223372036854775807) : Kd.C kB w (some ⟨b, o, none⟩) bs.length (nums bs) := by
  refine Kd.C_of_reads (d := 0) ⟨nums_length bs, hm, fun _ => ⟨_, rfl, fun j hj => ?_⟩⟩
  have := h j hj
  rw [nums_getD bs j hj]
  rw [show (⟨b, o, none⟩ : Addr).add j = ⟨b, o + j, none⟩ by unfold Addr.add; split <;> simp_all]
  exact this
theorem nums_append (a b : List UInt8) : nums (a ++ b) = nums a ++ nums b := by simp [nums]
set_option maxHeartbeats 1000000 in
set_option maxRecDepth 100000 in
theorem replace_none (b n c ob nb : Nat) (bs : List UInt8) (w : World) (hn : bs.length = n) (hc : n ≤ c) (hl : n ≤ 1000000) (h : BsAt w b 0 bs) (ho : BsAt w ob 0 [0]) (h0 : bs.count 0 = 0) :
    Calls Tryz.prog 173 #[.slice (some ⟨b, 0, none⟩) n c, .slice (some ⟨ob, 0, none⟩) 1 1, .slice (some ⟨nb, 0, none⟩) 2 2, .int .i64 (-1)] w fun e w' => ∃ v, e = .returned v ∧ Kd.R kB 5 w' w.heap.size (fun _ => True) v (nums bs) ∧ Below w.heap.size w w' := by
  have H := zA.mk h
  have HO := zA.mk ho
  have HM := zA.mk h0
  have hnn := zA.mk hn
  have HC : zA (Kd.C kB w (some ⟨b, 0, none⟩) n (nums bs)) := ⟨by rw [← hn]; exact C_bsAt h (by omega)⟩
  clear h ho h0 hn
  go_enter Tryz.func173, Tryz.ntmps173
  go_wp2_with fail
  refine (count1_any b 0 n c ob bs 0 _ hnn.out H.out HO.out).mono ?_
  rintro e w1 ⟨rfl, hw1⟩
  rw [HM.out]
  subst hw1
  go_wp2_with (at_builtin; refine Kd.zDd kB (w0 := w1) w1.heap.size rfl (.const (.slice none 0 0)) (.tmp 24) 47 5 (.int .u8 0) 1 rfl Tryz.underlying47 info5 rfl (by decide) (by omega) (.slice none 0 0) [] (nums bs) (some ⟨b, 0, none⟩) n c (fun _ => True) (fun _ => False) rfl rfl (Kd.R_nil _ _ _ _ _) HC.out (fun x cs h => h) (fun _ hk => hk.elim) (fun _ _ => trivial) (Below.refl _ _) (by simp) (by simp; omega) ?_; intro v1 w2 ho hb _ _)
  go_ret
  exact ⟨_, rfl, ho, hb⟩
theorem replace_any (b n c ob nb : Nat) (bs : List UInt8) (w : World) (hn : bs.length = n) (hc : n ≤ c) (hl : n ≤ 1000000) (h : BsAt w b 0 bs) (ho : BsAt w ob 0 [0]) (hnw : BsAt w nb 0 [0, 255]) :
    Calls Tryz.prog 173 #[.slice (some ⟨b, 0, none⟩) n c, .slice (some ⟨ob, 0, none⟩) 1 1, .slice (some ⟨nb, 0, none⟩) 2 2, .int .i64 (-1)] w fun e w' => ∃ v, e = .returned v ∧ Kd.R kB 5 w' w.heap.size (fun _ => True) v (nums (rep bs)) ∧ Below w.heap.size w w' := by
  by_cases h0 : bs.count 0 = 0
  · rw [rep_none h0]
    exact replace_none b n c ob nb bs w hn hc hl h ho h0
  · refine (replace_some b n c ob nb bs w hn hc hl h ho hnw h0).mono ?_
    rintro e w' ⟨v, rfl, h1, h2⟩
    exact ⟨v, rfl, R_cells rfl h1, h2⟩
set_option maxHeartbeats 1000000 in
set_option maxRecDepth 100000 in
theorem replaceAll_any (b n c ob nb : Nat) (bs : List UInt8) (w : World) (hn : bs.length = n) (hc : n ≤ c) (hl : n ≤ 1000000) (h : BsAt w b 0 bs) (ho : BsAt w ob 0 [0]) (hnw : BsAt w nb 0 [0, 255]) :
    Calls Tryz.prog 165 #[.slice (some ⟨b, 0, none⟩) n c, .slice (some ⟨ob, 0, none⟩) 1 1, .slice (some ⟨nb, 0, none⟩) 2 2] w fun e w' => ∃ v, e = .returned v ∧ Kd.R kB 5 w' w.heap.size (fun _ => True) v (nums (rep bs)) ∧ Below w.heap.size w w' := by
  have H := zA.mk h
  have HO := zA.mk ho
  have HN := zA.mk hnw
  have HL := zA.mk hn
  clear h ho hnw hn
  go_enter Tryz.func165, Tryz.ntmps165
  go_wp2_with fail
  refine (replace_any b n c ob nb bs _ HL.out hc hl H.out HO.out HN.out).mono ?_
  rintro e w' ⟨v, rfl, h1, h2⟩
  have H1 := zA.mk h1
  have H2 := zA.mk h2
  clear h1 h2
  obtain ⟨A, c1, e1⟩ := Kd.zBc H1.out
  subst e1
  go_wp2_with fail
  go_ret
  exact ⟨_, rfl, H1.out, H2.out⟩
end Go.Proofs.YtpckachmleonlaaGreatDoor.Cp
end
section
set_option linter.unusedVariables false
set_option linter.unusedSimpArgs false
namespace Go.Proofs.YtpckachmleonlaaGreatDoor.Cp
open Go.RowKit Go.Proofs.YtpckachmleonlaaGreatDoorW.PrintWords
theorem bsAt_world (w : World) (s : ByteArray) : BsAt (Lib.bytesWorld w 5 s) w.heap.size 0 s.data.toList := by
  intro i hi
  rw [Nat.zero_add, Lib.bytesWorld_cell w 5 s i (by rwa [Array.length_toList] at hi)]
theorem bsAt_blk {w : World} {g : Nat} {bs : List UInt8} (h : w.heap[g]? = some (.cells (cells bs).toArray 5 (0, 0))) : BsAt w g 0 bs := by
  intro i hi
  rw [Nat.zero_add, zAa h, List.getElem?_toArray, cells_get hi]
def escL (s : ByteArray) : List UInt8 := rep s.data.toList ++ [0, 1]
set_option maxHeartbeats 1000000 in
set_option maxRecDepth 100000 in
theorem escaped_any (s : ByteArray) (w : World) (hs : s.size ≤ 1000) :
    Calls Tryz.prog 152 #[.string s] w fun e w' => ∃ v0_ : Value, e = .returned v0_ ∧ Kd.R kB 5 w' w.heap.size (fun _ => True) v0_ (nums (escL s)) ∧ Below w.heap.size w w' := by
  have kb := fun W => print_bytes (P := Tryz.prog) 9 47 5 Tryz.underlying9 Tryz.underlying47 Tryz.underlying5 s W
  have HW0 := zA.mk (bsAt_world w s)
  have HB0 : zA (Below w.heap.size w (Lib.bytesWorld w 5 s)) := ⟨bytes_below (Below.refl _ _) (Nat.le_refl _) 5 s⟩
  have hsz := Lib.bytesWorld_size w 5 s
  have HZ := zA.mk hsz
  obtain ⟨c, hc⟩ : ∃ c, grownCap w s.size 0 5 = c := ⟨_, rfl⟩
  have hcge : s.size ≤ c := by rw [← hc]; exact grownCap_ge w s.size 0 5
  obtain ⟨w1, hw1⟩ : ∃ w1, Lib.bytesWorld w 5 s = w1 := ⟨_, rfl⟩
  have kb1 := kb w
  rw [hc, hw1] at kb1
  rw [hw1] at HW0 HB0 hsz HZ
  clear kb hc hw1
  go_enter Tryz.func152, Tryz.ntmps152
  go_wp2_with fail
  have HC0 : zA (BsAt ((w1.alloc (Obj.cells #[Value.int IntKind.u8 0] 5)).alloc (Obj.cells #[Value.int IntKind.u8 0, Value.int IntKind.u8 255] 5)) w.heap.size 0 s.data.toList) := ⟨HW0.out.below (by simpa using zAb (zAb (Below.refl w1.heap.size w1) _) _)⟩
  have HC1 : zA (BsAt ((w1.alloc (Obj.cells #[Value.int IntKind.u8 0] 5)).alloc (Obj.cells #[Value.int IntKind.u8 0, Value.int IntKind.u8 255] 5)) (w.heap.size + 1) 0 [0]) := ⟨by
    rw [← HZ.out]
    exact bsAt_blk (zAe (heap_alloc_new w1 _) _)⟩
  have HC2 : zA (BsAt ((w1.alloc (Obj.cells #[Value.int IntKind.u8 0] 5)).alloc (Obj.cells #[Value.int IntKind.u8 0, Value.int IntKind.u8 255] 5)) (w.heap.size + 1 + 1) 0 [0, 255]) := ⟨by
    have h := bsAt_blk (bs := [0, 255]) (heap_alloc_new (w1.alloc (Obj.cells #[Value.int IntKind.u8 0] 5)) (.cells #[.int .u8 0, .int .u8 255] 5))
    rwa [World.size_alloc, HZ.out] at h⟩
  have HB2 : zA (Below w.heap.size w ((w1.alloc (Obj.cells #[Value.int IntKind.u8 0] 5)).alloc (Obj.cells #[Value.int IntKind.u8 0, Value.int IntKind.u8 255] 5))) := ⟨zAb (zAb HB0.out _) _⟩
  have HZ2 : zA (w.heap.size ≤ ((w1.alloc (Obj.cells #[Value.int IntKind.u8 0] 5)).alloc (Obj.cells #[Value.int IntKind.u8 0, Value.int IntKind.u8 255] 5)).heap.size) := ⟨HB2.out.size⟩
  generalize ((w1.alloc (Obj.cells #[Value.int IntKind.u8 0] 5)).alloc (Obj.cells #[Value.int IntKind.u8 0, Value.int IntKind.u8 255] 5)) = w2 at HC0 HC1 HC2 HB2 HZ2 ⊢
  clear hsz kb1
  refine (replaceAll_any w.heap.size s.size c (w.heap.size + 1) (w.heap.size + 1 + 1) s.data.toList w2 (zDc s) hcge (by omega) HC0.out HC1.out HC2.out).mono ?_
  rintro e w3 ⟨v, rfl, hr, hb⟩
  have HR := zA.mk (Kd.zEb hr HZ2.out)
  have HB3 := zA.mk (HB2.out.trans (hb.mono HZ2.out))
  have HL : zA ((nums (rep s.data.toList)).length ≤ 2000) := ⟨by
    rw [nums_length, rep_length]
    have h1 : s.data.toList.count 0 ≤ s.data.toList.length := List.count_le_length
    rw [zDc] at h1 ⊢
    omega⟩
  clear hr hb
  obtain ⟨A, c1, e1⟩ := Kd.zBc HR.out
  subst e1
  go_wp2_with (at_builtin; refine Kd.zDd kB (w0 := w) w.heap.size rfl (.tmp 7) (.tmp 8) 47 5 (.int .u8 0) 1 rfl Tryz.underlying47 info5 rfl (by decide) (by omega) (.slice A (nums (rep s.data.toList)).length c1) (nums (rep s.data.toList)) (nums [0, 1]) (some ⟨w3.heap.size, 0, none⟩) 2 2 (fun _ => True) (fun _ => False) rfl rfl (Kd.zCf HR.out _) (C_bsAt (w := w3.alloc (.cells #[.int .u8 0, .int .u8 1] 5)) (bs := [0, 1]) ?c1 (by simp)) (fun x cs h => h) (fun _ hk => hk.elim) (fun _ _ => trivial) (zAb HB3.out _) ?c2 ?c3 ?_; (case c1 => exact bsAt_blk (heap_alloc_new w3 _)); (case c2 => (have := HB3.out.size; simp; omega)); (case c3 => (have := HL.out; omega)); intro v1 w4 ho4 hb4 _ _)
  have HO4 : zA (Kd.R kB 5 w4 w.heap.size (fun _ => True) v1 (nums (escL s))) := ⟨by unfold escL; rw [nums_append]; exact ho4⟩
  have HB4 := zA.mk hb4
  clear ho4 hb4
  obtain ⟨A4, c4, e4⟩ := Kd.zBc HO4.out
  subst e4
  go_wp2_with fail
  go_ret
  exact ⟨_, rfl, HO4.out, HB4.out⟩
end Go.Proofs.YtpckachmleonlaaGreatDoor.Cp
end
