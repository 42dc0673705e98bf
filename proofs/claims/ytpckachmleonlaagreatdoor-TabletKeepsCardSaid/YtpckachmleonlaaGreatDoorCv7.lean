/- Words and walks for Split and Tablet: texts of these sessions, and of the kit's print, cut down to what is used (D). -/
import Derived.Test.YtpckachmleonlaaGreatDoorCv6
import Derived.Deep.MidRow
import Derived.StillTailTactics
import Derived.Lib.Overlaps
import Derived.Lib.AppendZerosOnto
import Derived.Laws.CopyOwn
import Derived.Laws.IdiomCopy
section
set_option linter.unusedVariables false
set_option linter.unusedSimpArgs false
namespace Go.Proofs.YtpckachmleonlaaGreatDoor
open Go.RowKit Go.Proofs.YtpckachmleonlaaGreatDoorW.PrintWords
structure Fr (F : List Nat) (w w' : World) : Prop where
 os : w'.os = w.os
 tape : w'.tape = w.tape
 output : w'.output = w.output
 size : w.heap.size ≤ w'.heap.size
 block : ∀ k, k < w.heap.size → k ∉ F → w'.heap[k]? = w.heap[k]?
theorem Fr.refl (F : List Nat) (w : World) : Fr F w w := ⟨rfl, rfl, rfl, Nat.le_refl _, fun _ _ _ => rfl⟩
theorem Fr.of_below {F : List Nat} {w w' : World} (h : Below w.heap.size w w') : Fr F w w' := ⟨h.os, h.tape, h.output, h.size, fun k hk _ => h.block k hk⟩
theorem Fr.below {F : List Nat} {w w' : World} {B : Nat} (h : Fr F w w') (hB : B ≤ w.heap.size) (hF : ∀ b ∈ F, B ≤ b) : Below B w w' := ⟨h.os, h.tape, h.output, h.size, fun k hk => h.block k (by omega) (fun hin => by have := hF k hin; omega)⟩
theorem Fr.trans {F G : List Nat} {a b c : World} (h : Fr F a b) (k : Fr G b c) (hG : ∀ x ∈ G, x ∈ F ∨ a.heap.size ≤ x) : Fr F a c :=
 ⟨k.os.trans h.os, k.tape.trans h.tape, k.output.trans h.output, Nat.le_trans h.size k.size, fun x hx hn => (k.block x (Nat.lt_of_lt_of_le hx h.size) (fun hg => by
  rcases hG x hg with h1 | h1
  ·exact hn h1
  ·omega)).trans (h.block x hx hn)⟩
theorem Fr.set {F : List Nat} {w : World} (p : Addr) (hp : p.block ∈ F) (u : Value) : Fr F w (w.setCell p u) :=
 ⟨rfl, rfl, rfl, by simp [World.setCell], fun k _ hn => Below.heap_setCell w p u k (fun e => hn (e ▸ hp))⟩
def shc (x c : Int) : Int := Go.bits .or .u32 (x * 256 % 4294967296) (c % 4294967296)
def innerW (tail : List Int) (t : Nat) (L : List Int) : Nat → List Int
 | 0 => L
 | k + 1 => (innerW tail t L k).set t (shc ((innerW tail t L k).getD t 0) (tail.getD (4 * t + k) 0))
def nextX (p x q y : Int) : Int := (p + Go.bits .xor .u32 (Go.bits .xor .u32 (rotM x 7) (rotM x 18)) (x / 8) + q + Go.bits .xor .u32 (Go.bits .xor .u32 (rotM y 17) (rotM y 19)) (y / 1024)) % 4294967296
def nextW (L : List Int) (t : Nat) : Int := nextX (L.getD (t - 16) 0) (L.getD (t - 15) 0) (L.getD (t - 7) 0) (L.getD (t - 2) 0)
def stepW (tail : List Int) (t : Nat) (L : List Int) : List Int := if t < 16 then innerW tail t L 4 else L.set t (nextW L t)
def zFf (tail : List Int) : Nat → List Int
 | 0 => List.replicate 64 0
 | t + 1 => stepW tail t (zFf tail t)
structure V8 where
 a : Int
 b : Int
 c : Int
 d : Int
 e : Int
 f : Int
 g : Int
 h : Int
def V8.cells (V : V8) : Array Value := #[.int .u32 V.a, .int .u32 V.b, .int .u32 V.c, .int .u32 V.d, .int .u32 V.e, .int .u32 V.f, .int .u32 V.g, .int .u32 V.h]
def oneX (e f g h k x : Int) : Int := ((h + Go.bits .xor .u32 (Go.bits .xor .u32 (rotM e 6) (rotM e 11)) (rotM e 25) + Go.bits .xor .u32 g (Go.bits .and .u32 e (Go.bits .xor .u32 f g)) + k) % 4294967296 + x) % 4294967296
def twoX (a b c : Int) : Int := (Go.bits .xor .u32 (Go.bits .xor .u32 (rotM a 2) (rotM a 13)) (rotM a 22) + Go.bits .or .u32 (Go.bits .and .u32 a b) (Go.bits .and .u32 (Go.bits .or .u32 a b) c)) % 4294967296
def oneV (V : V8) (k x : Int) : Int := oneX V.e V.f V.g V.h k x
def twoV (V : V8) : Int := twoX V.a V.b V.c
def nextV (V : V8) (k x : Int) : V8 := ⟨(oneV V k x + twoV V) % 4294967296, V.a, V.b, V.c, (V.d + oneV V k x) % 4294967296, V.e, V.f, V.g⟩
def mainV (L : List Int) (V : V8) : Nat → V8
 | 0 => V
 | t + 1 => nextV (mainV L V t) (kW.getD t 0) (L.getD t 0)
def ofH (l : List Int) : V8 := ⟨l.getD 0 0, l.getD 1 0, l.getD 2 0, l.getD 3 0, l.getD 4 0, l.getD 5 0, l.getD 6 0, l.getD 7 0⟩
def V8.list (V : V8) : List Int := [V.a, V.b, V.c, V.d, V.e, V.f, V.g, V.h]
def Bl (w : World) : Type := { W : World // Below w.heap.size w W }
instance (w : World) : Nonempty (Bl w) := ⟨⟨w, Below.refl _ _⟩⟩
theorem wp_region_bl {P : Program} {id : Nat} {Q : Exit → Act → World → Prop} {a : Act} {w : World} {l : List Oper} (hm : P.follows .mixedOrders = true) (hB : Region.lexB .any l.toArray = true)
  (h : wpQuiet P l.toArray (fun w' => ∃ i : Bl w, w' = i.1) (fun a' => ∀ w', (∃ i : Bl w, w' = i.1) → Q .normal a' w') l a) : (Code.region id l.toArray true).wp P Q a w :=
 wp_region_quiet (C := fun w' => ∃ i : Bl w, w' = i.1) hm hB ⟨⟨w.drew, zAg (Below.refl _ _)⟩, rfl⟩ (by simpa using h)
theorem bl_call {P : Program} {f : FuncId} {args : Array Value} {w : World} {i : Bl w} {v : Value}
  (h : Calls P f args i.1 fun e w' => e = .returned v ∧ Below i.1.heap.size i.1 w') :
  Calls P f args i.1 fun e w'' => e = .returned v ∧ ∃ j : Bl w, w'' = j.1 :=
 h.mono fun _ w' ⟨he, hb⟩ => ⟨he, ⟨w', i.2.trans (hb.mono i.2.size)⟩, rfl⟩
theorem bl_still {P : Program} {f : FuncId} {args : Array Value} {w : World} {i : Bl w} {v : Value}
  (h : Calls P f args i.1 fun e w' => e = .returned v ∧ w' = i.1) :
  Calls P f args i.1 fun e w'' => e = .returned v ∧ ∃ j : Bl w, w'' = j.1 :=
 h.mono fun _ w' ⟨he, hb⟩ => ⟨he, i, hb⟩
theorem zDd {w : World} {p : Addr} {v : Value} (h : w.cell? p = some v) (i : Bl w) : i.1.cell? p = some v := (i.2.cell (World.block_lt_of_cell? w _ h)).trans h
theorem run_index_one {P : Program} (t e : TypeId) (n : Nat) (cs : Array Value) (i : Int) (v : Value) {inf : TypeInfo} (h : P.underlying t = some (.array n e)) (hi : P.info? e = some inf) (hs : inf.size = 1) (he : ∀ W, (isAgg e).run P W = .ok false W) (h0 : 0 ≤ i) (h1 : i < n) (hv : cs[i.toNat]? = some v) (W : World) :
  (Instr.index t (.agg cs) (.int .i64 i)).run P W = .ok v W := by
 simp [Instr.index, asIntOf, run_underlying h, h0, h1, sizeOf, typeInfo, hi, hs, part, he, hv, Result.andThen]
theorem index190 {L : List Int} (hL : L.length = 64) (t : Nat) (ht : t < 64) (W : World) : (Instr.index 190 (.agg (zFe L).toArray) (.int .i64 (t : Int))).run Tryz.prog W = .ok (.int .u32 (L.getD t 0)) W := by
 obtain ⟨inf, hinf, hsz⟩ : ∃ inf, Tryz.prog.info? 157 = some inf ∧ inf.size = 1 := by
  have h : (Tryz.prog.info? 157).map (·.size) = some 1 := by kernel_rfl
  cases hq : Tryz.prog.info? 157 with
  | none => rw [hq] at h; cases h
  | some x => rw [hq] at h; exact ⟨x, rfl, by simpa using h⟩
 refine run_index_one 190 157 64 (zFe L).toArray t _ Tryz.underlying190 hinf hsz (fun W => ?_) (by omega) (by omega) ?_ W
 ·unfold isAgg
  rw [Sem.run_bind, run_underlying Tryz.underlying157 W]
  rfl
 ·have := wcells_get (L := L) (i := t) (by omega)
  simpa using this
section
variable {P : Program}
theorem zBi (w : World) (dT sT ty e : TypeId) (size : Nat) (hu : P.underlying dT = some (.slice e)) (hsz : (P.info? e).map (·.size) = some size)
  (g off dLen dCap : Nat) (ad : Addr) (sLen sCap : Nat) (cs cur : List Value) (t : TypeId) (hg : w.heap[g]? = some (.cells cur.toArray t (0, 0))) (hn : cs.length = Nat.min sLen dLen * size)
  (hsrc : ∀ j v, cs[j]? = some v → w.cell? (ad.add j) = some v) (hfit : off + cs.length ≤ cur.length) (h1 : ∀ v ∈ cs, v.oneCell' = true) :
  (Builtin.copy_ #[dT, sT] ty #[.slice (some ⟨g, off, none⟩) dLen dCap, .slice (some ad) sLen sCap]).run P w = .ok (goInt (Nat.min sLen dLen)) (w.setCells g off cs) := by
 obtain ⟨i0, hi, hs⟩ := Option.map_eq_some_iff.1 hsz
 have hc := run_firstCells_some (P := P) w i0.size (Nat.min sLen dLen) ad sLen sCap cs (by rw [hs]; exact hn) hsrc
 have hst := run_storeCells_cells (P := P) g off cs 0 w (fun j hj => by rw [cell_of_row w g _ _ t (0, 0) hg]; simp; omega) (fun j _ => zAd hg _) h1
 simp only [Nat.add_zero] at hst
 simp [Builtin.copy_, run_underlying hu, Builtin.lenOf, sizeOf, typeInfo, hi, hc, hst]
theorem wp_copy_run (w : World) {o : Oper} {a : Act} {K : Act → World → Prop} {Q : Exit → Act → World → Prop} (d s : Operand) (t t' : TypeId)
  (ho : o.op = .call { callee := .builtin .copy, args := #[d, s], argTypes := #[t, t'] }) (v u : Value) (hd : a.eval d = v) (hs : a.eval s = u) {v' : Value} {w' : World}
  (hr : (Builtin.copy_ #[t, t'] o.type #[v, u]).run P w = .ok v' w') (h : K (a.put o.dst v') w') : o.wp P a w K Q := by
 unfold Oper.wp execOp
 simp only [ho, resolve, invoke, builtin, Sem.run_bind, Sem.run_pure, Result.andThen_ok, List.map_toArray, List.map_cons, List.map_nil, hd, hs, hr]
 exact h
theorem wpList_copy_run (w : World) {ops : Array Oper} {rest : List Oper} {o : Oper} {a : Act} {Q : Exit → Act → World → Prop} (hgd : o.guard = none) (d s : Operand) (t t' : TypeId)
  (ho : o.op = .call { callee := .builtin .copy, args := #[d, s], argTypes := #[t, t'] }) (v u : Value) (hd : a.eval d = v) (hs : a.eval s = u) {v' : Value} {w' : World}
  (hr : (Builtin.copy_ #[t, t'] o.type #[v, u]).run P w = .ok v' w') (h : wpList P ops Q rest (a.put o.dst v') w') : wpList P ops Q (o :: rest) a w :=
 wpList_plain hgd fun _ hK => wp_copy_run w d s t t' ho v u hd hs hr (hK _ _ h)
end
theorem zCc {w : World} {g off : Nat} {cs cur : List Value} {t : TypeId} (hg : w.heap[g]? = some (.cells cur.toArray t (0, 0))) (hfit : off + cs.length ≤ cur.length) :
  (w.setCells g off cs).heap[g]? = some (.cells (splice cur off cs).toArray t (0, 0)) := by
 obtain ⟨cur', h1, _, h3⟩ := setCells_row cs off w cur.toArray hg (by simpa using hfit)
 rw [h1]
 congr 2
 apply Array.ext'
 rw [h3]
 simp [splice]
theorem zBk {B : Nat} {w0 w : World} {g off : Nat} {cs : List Value} (hb : Below B w0 w) (hB : B ≤ g) : Below B w0 (w.setCells g off cs) := by
 obtain ⟨s1, s2, s3, s4⟩ := setCells_same g cs off w
 exact hb.trans ⟨s1, s2, s3, by rw [s4]; exact Nat.le_refl _, fun k hk => setCells_far cs off k (by omega)⟩
theorem copy7 {w : World} {gv : Nat} (V : V8) (hb : w.heap[gv]? = some (.cells V.cells 169 (0, 0))) (ty : TypeId) :
  (Builtin.copy_ #[153, 153] ty #[.slice (some ⟨gv, 1, none⟩) 7 7, .slice (some ⟨gv, 0, none⟩) 7 8]).run Tryz.prog w = .ok (goInt 7) (w.setCells gv 1 (V.cells.toList.take 7)) := by
 refine zBi w 153 153 ty 157 1 Tryz.underlying153 (by kernel_rfl) gv 1 7 7 ⟨gv, 0, none⟩ 7 8 (V.cells.toList.take 7) V.cells.toList 169 (by simpa using hb) rfl (fun j v hj => ?_) (by simp [V8.cells]) ?_
 ·have hlt : j < 7 := by
   have := (List.getElem?_eq_some_iff.1 hj).1
   simp at this
   omega
  rw [Addr.add_mid, Nat.zero_add, zAc hb]
  rw [List.getElem?_take, if_pos hlt] at hj
  simpa using hj
 ·intro v hv
  simp only [V8.cells, List.take_succ_cons, List.take_zero, List.mem_cons, List.not_mem_nil, or_false] at hv
  rcases hv with rfl | rfl | rfl | rfl | rfl | rfl | rfl <;> rfl
theorem index169 (V : V8) (i : Nat) (hi : i < 8) (W : World) : (Instr.index 169 (.agg V.cells) (.int .i64 (i : Int))).run Tryz.prog W = .ok (.int .u32 (V.list.getD i 0)) W := by
 obtain ⟨inf, hinf, hsz⟩ : ∃ inf, Tryz.prog.info? 157 = some inf ∧ inf.size = 1 := by
  have h : (Tryz.prog.info? 157).map (·.size) = some 1 := by kernel_rfl
  cases hq : Tryz.prog.info? 157 with
  | none => rw [hq] at h; cases h
  | some x => rw [hq] at h; exact ⟨x, rfl, by simpa using h⟩
 refine run_index_one 169 157 8 V.cells i _ Tryz.underlying169 hinf hsz (fun W => ?_) (by omega) (by omega) ?_ W
 ·unfold isAgg
  rw [Sem.run_bind, run_underlying Tryz.underlying157 W]
  rfl
 ·rcases (by omega : i = 0 ∨ i = 1 ∨ i = 2 ∨ i = 3 ∨ i = 4 ∨ i = 5 ∨ i = 6 ∨ i = 7) with rfl | rfl | rfl | rfl | rfl | rfl | rfl | rfl <;> rfl
def addH (h l : List Int) : Nat → List Int
 | 0 => h
 | i + 1 => (addH h l i).set i (((addH h l i).getD i 0 + l.getD i 0) % 4294967296)
def blockM (H : HM) : HM := { H with h := addH H.h (mainV (zFf H.tail 64) (ofH H.h) 64).list 8 }
theorem range169 {w : World} {gv : Nat} {V : V8} (h : w.heap[gv]? = some (.cells V.cells 169 (0, 0))) : w.rangeAt gv 0 V.cells.toList := by
 intro j v hj
 rw [Nat.zero_add, zAc h]
 simpa using hj
theorem size169 (V : V8) : (Tryz.prog.info? 169).map (·.size) = some V.cells.toList.length := by
 have h : (Tryz.prog.info? 169).map (·.size) = some 8 := by kernel_rfl
 exact h
theorem len170 : Tryz.prog.arrayLen 170 = 64 := by kernel_rfl
theorem elem170 : Tryz.prog.elem 170 = 5 := by kernel_rfl
theorem sz5 : (Tryz.prog.info? 5).map (·.size) = some 1 := by kernel_rfl
theorem cut4 (b t : Nat) (ht : t < 16) (W : World) : (Instr.sliceAt 170 (.pointer (some ⟨b, 8, none⟩)) (some (.int .i64 (4 * (t : Int)))) (some (.int .i64 (4 * (t : Int) + 4))) none).run Tryz.prog W = .ok (.slice (some ⟨b, 8 + 4 * t, none⟩) 4 (64 - 4 * t)) W := by
 have hs : (sizeOf 5).run Tryz.prog W = .ok 1 W := by
  obtain ⟨i0, hi, hz⟩ := Option.map_eq_some_iff.1 sz5
  simp [sizeOf, typeInfo, hi, hz]
 rw [run_sliceAt_array_lh W 170 ⟨b, 8, none⟩ (by kernel_rfl) .i64 .i64 (4 * (t : Int)) (4 * (t : Int) + 4) (by omega) (by omega) (by rw [len170]; omega), elem170, hs]
 have e1 : (4 * (t : Int)).toNat = 4 * t := by omega
 have e2 : (4 * (t : Int) + 4).toNat = 4 * t + 4 := by omega
 simp only [Result.andThen, slicedAt, e1, e2, len170]
 rw [if_neg (by omega), Nat.mul_one, Addr.add_mid, show 4 * t + 4 - 4 * t = 4 by omega]
set_option maxHeartbeats 20000000 in
set_option maxRecDepth 100000 in
theorem block_any (b : Nat) (H : HM) (w : World) (hH : HAt w b H) :
  Calls Tryz.prog 131 #[.pointer (some ⟨b, 0, none⟩)] w fun e w' => e = .returned (.tuple #[]) ∧ HAt w' b (blockM H) ∧ Fr [b] w w' := by
 have HH := zAa.mk hH
 have HB0 := zAa.mk hH.lt_size
 clear hH
 go_enter Tryz.func131, Tryz.ntmps131
 go_wp2_with fail
 obtain ⟨gw, hgw⟩ : ∃ gw, w.heap.size = gw := ⟨_, rfl⟩
 have HG := zAa.mk hgw
 rw [hgw] at HB0 ⊢
 clear hgw
 go_loopw [17] (fun v17 w' => ∃ t : Nat, t ≤ 64 ∧ v17 = .int .i64 t ∧ zAa (WAt w' gw (zFf H.tail t)) ∧ zAa (Below w.heap.size w w')) (fun v17 _ => 64 - (intOf v17).toNat)
 case atStart => exact ⟨0, by omega, rfl, ⟨⟨by rw [← HG.out]; exact heap_alloc_new _ _, rfl⟩⟩, ⟨zAb (Below.refl _ _) _⟩⟩
 case round =>
  obtain ⟨t, ht, rfl, HW, HB⟩ := hrel
  by_cases hlt : t < 64
  ·have h1 : (t : Int) < 64 := by omega
   by_cases h16 : t < 16
   ·have h2 : (t : Int) < 16 := by omega
    have h3 : (0 : Int) ≤ 4 * t := by omega
    have h4 : (4 * (t : Int) + 4) ≤ 64 := by omega
    have hsl := cut4 b t h16
    go_wp2_with fail
    clear hsl
    go_loopw [32] (fun v32 w' => ∃ k : Nat, k ≤ 4 ∧ v32 = .int .i64 k ∧ zAa (WAt w' gw (innerW H.tail t (zFf H.tail t) k)) ∧ zAa (Below w.heap.size w w')) (fun v32 _ => 4 - (intOf v32).toNat)
    case atStart => exact ⟨0, by omega, rfl, HW, HB⟩
    case round =>
     obtain ⟨k, hk, rfl, HV, HC⟩ := hrel
     by_cases hk4 : k < 4
     ·have g1 : (k : Int) < 4 := by omega
      have c0 : wr.cell? ⟨b, 8 + 4 * t + k, none⟩ = some (.int .u8 (H.tail.getD (4 * t + k) 0)) := by
       have := (HH.out.keep HC.out).t_cell (i := 4 * t + k) (by omega)
       rwa [← Nat.add_assoc] at this
      have c1 := HV.out.cell (i := t) hlt
      have f1 := zAd HV.out.hb t
      obtain ⟨x, hx⟩ : ∃ x, (innerW H.tail t (zFf H.tail t) k).getD t 0 = x := ⟨_, rfl⟩
      obtain ⟨y, hy⟩ : ∃ y, H.tail.getD (4 * t + k) 0 = y := ⟨_, rfl⟩
      rw [hx] at c1
      rw [hy] at c0
      have HX := zAa.mk hx
      have HY := zAa.mk hy
      have HN : zAa (∀ u, WAt (wr.setCell ⟨gw, t, none⟩ (.int .u32 u)) gw ((innerW H.tail t (zFf H.tail t) k).set t u)) := ⟨fun u => HV.out.set t u⟩
      clear hx hy
      go_wp2_with fail
      go_roundw
      case rel => exact ⟨k + 1, by omega, by go_num, ⟨by rw [innerW, HX.out, HY.out]; exact HN.out _⟩, ⟨HC.out.setCell (by rw [HG.out]; exact Nat.le_refl _) _⟩⟩
      case measure => simp [intOf]; omega
     ·obtain rfl : k = 4 := by omega
      go_wp2_with fail
      go_roundw
      case rel => exact ⟨t + 1, by omega, by go_num, ⟨by rw [zFf, stepW, if_pos h16]; exact HV.out⟩, HC⟩
      case measure => simp [intOf]; omega
   ·have h2 : ¬ ((t : Int) < 16) := by omega
    have i15 : (0 : Int) ≤ (t : Int) - 15 := by omega
    have i2 : (0 : Int) ≤ (t : Int) - 2 := by omega
    have j15 : (t : Int) - 15 < 64 := by omega
    have j2 : (t : Int) - 2 < 64 := by omega
    have e15 : ((t : Int) - 15).toNat = t - 15 := by omega
    have e2 : ((t : Int) - 2).toNat = t - 2 := by omega
    have c15 := HW.out.cell (i := t - 15) (by omega)
    have c2 := HW.out.cell (i := t - 2) (by omega)
    obtain ⟨x, hx⟩ : ∃ x, (zFf H.tail t).getD (t - 15) 0 = x := ⟨_, rfl⟩
    obtain ⟨y, hy⟩ : ∃ y, (zFf H.tail t).getD (t - 2) 0 = y := ⟨_, rfl⟩
    rw [hx] at c15
    rw [hy] at c2
    have HX := zAa.mk hx
    have HY := zAa.mk hy
    clear hx hy
    go_wp2_with fail
    go_quiet (fail)
    have HW1 : zAa (WAt (wr.drewN nq) gw (zFf H.tail t)) := ⟨HW.out.keep (zAe (Below.refl _ _) nq)⟩
    have HB1 : zAa (Below w.heap.size w (wr.drewN nq)) := ⟨zAe HB.out nq⟩
    clear c15 c2 HW HB
    generalize wr.drewN nq = w1 at HW1 HB1 ⊢
    have i16 : (0 : Int) ≤ (t : Int) - 16 := by omega
    have i7 : (0 : Int) ≤ (t : Int) - 7 := by omega
    have j16 : (t : Int) - 16 < 64 := by omega
    have j7 : (t : Int) - 7 < 64 := by omega
    have e16 : ((t : Int) - 16).toNat = t - 16 := by omega
    have e7 : ((t : Int) - 7).toNat = t - 7 := by omega
    have c16 := HW1.out.cell (i := t - 16) (by omega)
    have c7 := HW1.out.cell (i := t - 7) (by omega)
    have ct := HW1.out.cell (i := t) (by omega)
    have ft := zAd HW1.out.hb t
    obtain ⟨p, hp⟩ : ∃ x, (zFf H.tail t).getD (t - 16) 0 = x := ⟨_, rfl⟩
    obtain ⟨q, hq⟩ : ∃ y, (zFf H.tail t).getD (t - 7) 0 = y := ⟨_, rfl⟩
    obtain ⟨r, hr⟩ : ∃ y, (zFf H.tail t).getD t 0 = y := ⟨_, rfl⟩
    rw [hp] at c16
    rw [hq] at c7
    rw [hr] at ct
    have HP := zAa.mk hp
    have HQ := zAa.mk hq
    have HR := zAa.mk hr.symm
    clear hp hq hr
    have s7 : (7 : Int) ≤ t := by omega
    have wr16 : IntKind.i64.wrap ((t : Int) - 16) = (t : Int) - 16 := IntWalk.i64_in _ (by omega)
    have wr7 : IntKind.i64.wrap ((t : Int) - 7) = (t : Int) - 7 := IntWalk.i64_in _ (by omega)
    clear i15 i2 j15 j2 e15 e2
    go_upto_region 11 with fail
    go_still_tail 29, (by kernel_rfl)
    still_call (right_7 x _)
    repeat still_step
    still_call (right_18 x _)
    repeat still_step
    still_call (right_17 y _)
    repeat still_step
    still_call (right_19 y _)
    repeat still_step
    refine wpStill_nil ?_
    change wpList _ _ _ _ _ w1.drew
    have HW2 : zAa (WAt w1.drew gw (zFf H.tail t)) := ⟨HW1.out.keep (zAg (Below.refl _ _))⟩
    have HB2 : zAa (Below w.heap.size w w1.drew) := ⟨zAg HB1.out⟩
    clear c16 c7 ct ft HW1 HB1
    generalize w1.drew = w2 at HW2 HB2 ⊢
    have ct := HW2.out.cell (i := t) (by omega)
    have ft := zAd HW2.out.hb t
    rw [← HR.out] at ct
    go_wp2_with fail
    have HN : zAa (zFf H.tail (t + 1) = (zFf H.tail t).set t (nextX p x q y)) := ⟨by rw [zFf, stepW, if_neg h16, nextW, HX.out, HY.out, HP.out, HQ.out]⟩
    go_roundw
    case rel => exact ⟨t + 1, by omega, by go_num, ⟨by rw [HN.out]; exact HW2.out.set t _⟩, ⟨HB2.out.setCell (by rw [HG.out]; exact Nat.le_refl _) _⟩⟩
    case measure => simp [intOf]; omega
  ·obtain rfl : t = 64 := by omega
   have c0 := (HH.out.keep HB.out).h_cell (i := 0) (by omega)
   have c1 := (HH.out.keep HB.out).h_cell (i := 1) (by omega)
   have c2 := (HH.out.keep HB.out).h_cell (i := 2) (by omega)
   have c3 := (HH.out.keep HB.out).h_cell (i := 3) (by omega)
   have c4 := (HH.out.keep HB.out).h_cell (i := 4) (by omega)
   have c5 := (HH.out.keep HB.out).h_cell (i := 5) (by omega)
   have c6 := (HH.out.keep HB.out).h_cell (i := 6) (by omega)
   have c7 := (HH.out.keep HB.out).h_cell (i := 7) (by omega)
   go_upto_region 14 with fail
   have HW2 : zAa (WAt (wr.alloc (Obj.cells (ofH H.h).cells 169)) gw (zFf H.tail 64)) := ⟨⟨zAi HW.out.hb _, HW.out.len⟩⟩
   have HB2 : zAa (Below w.heap.size w (wr.alloc (Obj.cells (ofH H.h).cells 169))) := ⟨zAb HB.out _⟩
   have HV2 : zAa ((wr.alloc (Obj.cells (ofH H.h).cells 169)).heap[wr.heap.size]? = some (.cells (ofH H.h).cells 169 (0, 0))) := ⟨heap_alloc_new _ _⟩
   have HZ : zAa (w.heap.size ≤ wr.heap.size ∧ gw ≠ wr.heap.size) := ⟨HB.out.size, by have := zAj HW.out.hb; omega⟩
   clear c0 c1 c2 c3 c4 c5 c6 c7 HW HB
   change Code.wp _ _ _ _ (wr.alloc (Obj.cells (ofH H.h).cells 169))
   generalize wr.alloc (Obj.cells (ofH H.h).cells 169) = w2 at HW2 HB2 HV2 ⊢
   generalize wr.heap.size = gv at HV2 HZ ⊢
   have hrg := HW2.out.range
   have hsz := size190 HW2.out.len
   have hix := index190 HW2.out.len
   obtain ⟨L, hL⟩ : ∃ L, zFf H.tail 64 = L := ⟨_, rfl⟩
   rw [hL] at HW2 hrg hsz hix
   have HLL := zAa.mk hL
   clear hL
   go_wp2_with (refine wpList_load_mid rfl 190 (.tmp 2) rfl gw 0 rfl (zFe L) _ hrg Tryz.underlying190 rfl hsz ?_)
   clear hrg hsz
   generalize (zFe L).toArray = va at hix ⊢
   go_loopw [89] (fun v89 w' => ∃ (t : Nat) (V : V8), t ≤ 64 ∧ v89 = .int .i64 t ∧ zAa (w'.heap[gv]? = some (.cells V.cells 169 (0, 0))) ∧ zAa (V = mainV L (ofH H.h) t) ∧ zAa (Below w.heap.size w w')) (fun v89 _ => 64 - (intOf v89).toNat)
   case atStart => exact ⟨0, ofH H.h, by omega, rfl, HV2, ⟨rfl⟩, HB2⟩
   case round =>
    obtain ⟨t, V, ht, rfl, HV, HM, HB⟩ := hrel
    by_cases hlt : t < 64
    ·have h1 : (t : Int) < 64 := by omega
     have hi := fun W => hix t hlt W
     obtain ⟨x, hx⟩ : ∃ x, L.getD t 0 = x := ⟨_, rfl⟩
     obtain ⟨kx, hk⟩ : ∃ x, kW.getD t 0 = x := ⟨_, rfl⟩
     have HX := zAa.mk hx
     have HK := zAa.mk hk
     rw [hx] at hi
     obtain ⟨va0, vb, vc, vd, ve, vf, vg, vh⟩ := V
     clear hix hx hk
     have c0 : wr.cell? ⟨gv, 0, none⟩ = some (.int .u32 va0) := (zAc HV.out 0).trans rfl
     have c1 : wr.cell? ⟨gv, 1, none⟩ = some (.int .u32 vb) := (zAc HV.out 1).trans rfl
     have c2 : wr.cell? ⟨gv, 2, none⟩ = some (.int .u32 vc) := (zAc HV.out 2).trans rfl
     have c4 : wr.cell? ⟨gv, 4, none⟩ = some (.int .u32 ve) := (zAc HV.out 4).trans rfl
     have c5 : wr.cell? ⟨gv, 5, none⟩ = some (.int .u32 vf) := (zAc HV.out 5).trans rfl
     have c6 : wr.cell? ⟨gv, 6, none⟩ = some (.int .u32 vg) := (zAc HV.out 6).trans rfl
     have c7 : wr.cell? ⟨gv, 7, none⟩ = some (.int .u32 vh) := (zAc HV.out 7).trans rfl
     go_upto_region 18 with fail
     have C5 := fun i => zDd c5 i
     have C6 := fun i => zDd c6 i
     have C7 := fun i => zDd c7 i
     have R6 : ∀ i : Bl wr, _ := fun i => bl_still (i := i) (right_6 ve i.1)
     have R11 : ∀ i : Bl wr, _ := fun i => bl_still (i := i) (right_11 ve i.1)
     have R25 : ∀ i : Bl wr, _ := fun i => bl_still (i := i) (right_25 ve i.1)
     have RK : ∀ i : Bl wr, Calls Tryz.prog 151 #[.int .i64 t] i.1 fun e w'' => e = .returned (.int .u32 kx) ∧ ∃ j : Bl wr, w'' = j.1 := fun i => bl_call (i := i) (HK.out ▸ round_any t hlt i.1)
     refine wp_region_bl (by kernel_rfl) (by kernel_rfl) ?_
     repeat (go_big_quiet_step (first | exact R6 _ | exact R11 _ | exact R25 _ | exact RK _))
     refine wpQuiet_nil ?_
     intro w3 hw3
     obtain ⟨i3, e3⟩ := hw3
     have hb3 := i3.2
     rw [← e3] at hb3
     clear e3 i3 C5 C6 C7 R6 R11 R25 RK c0 c1 c2 c4 c5 c6 c7 hi
     obtain ⟨o1, ho1⟩ : ∃ o, oneX ve vf vg vh kx x = o := ⟨_, rfl⟩
     have HO1 := zAa.mk ho1
     unfold oneX at ho1
     rw [ho1]
     clear ho1
     have HV3 : zAa (w3.heap[gv]? = some (.cells (V8.mk va0 vb vc vd ve vf vg vh).cells 169 (0, 0))) := ⟨zAf HV.out hb3⟩
     have HB3 : zAa (Below w.heap.size w w3) := ⟨HB.out.trans (hb3.mono HB.out.size)⟩
     clear hb3 HV HB
     have c0 : w3.cell? ⟨gv, 0, none⟩ = some (.int .u32 va0) := (zAc HV3.out 0).trans rfl
     have c1 : w3.cell? ⟨gv, 1, none⟩ = some (.int .u32 vb) := (zAc HV3.out 1).trans rfl
     have c2 : w3.cell? ⟨gv, 2, none⟩ = some (.int .u32 vc) := (zAc HV3.out 2).trans rfl
     go_upto_region 20 with fail
     have C1 := fun i => zDd c1 i
     have C2 := fun i => zDd c2 i
     have R2 : ∀ i : Bl w3, _ := fun i => bl_still (i := i) (right_2 va0 i.1)
     have R13 : ∀ i : Bl w3, _ := fun i => bl_still (i := i) (right_13 va0 i.1)
     have R22 : ∀ i : Bl w3, _ := fun i => bl_still (i := i) (right_22 va0 i.1)
     refine wp_region_bl (by kernel_rfl) (by kernel_rfl) ?_
     repeat (go_big_quiet_step (first | exact R2 _ | exact R13 _ | exact R22 _))
     refine wpQuiet_nil ?_
     intro w4 hw4
     obtain ⟨i4, e4⟩ := hw4
     have hb4 := i4.2
     rw [← e4] at hb4
     clear e4 i4 C1 C2 R2 R13 R22 c0 c1 c2
     obtain ⟨o2, ho2⟩ : ∃ o, twoX va0 vb vc = o := ⟨_, rfl⟩
     have HO2 := zAa.mk ho2
     unfold twoX at ho2
     rw [ho2]
     clear ho2
     have HV4 : zAa (w4.heap[gv]? = some (.cells (V8.mk va0 vb vc vd ve vf vg vh).cells 169 (0, 0))) := ⟨zAf HV3.out hb4⟩
     have HB4 : zAa (Below w.heap.size w w4) := ⟨HB3.out.trans (hb4.mono HB3.out.size)⟩
     clear hb4 HV3 HB3
     go_upto_region 21 with fail
     go_still_tail 2, (by kernel_rfl)
     change wpList _ _ _ _ _ w4.drew
     have HV5 : zAa (w4.drew.heap[gv]? = some (.cells (V8.mk va0 vb vc vd ve vf vg vh).cells 169 (0, 0))) := ⟨HV4.out⟩
     have HB5 : zAa (Below w.heap.size w w4.drew) := ⟨zAg HB4.out⟩
     clear HV4 HB4
     generalize w4.drew = w5 at HV5 HB5 ⊢
     refine wpList_copy_run w5 rfl (.tmp 145) (.tmp 146) 153 153 rfl _ _ rfl rfl (copy7 (V8.mk va0 vb vc vd ve vf vg vh) HV5.out _) ?_
     have HV6 : zAa ((w5.setCells gv 1 ((V8.mk va0 vb vc vd ve vf vg vh).cells.toList.take 7)).heap[gv]? = some (.cells (V8.mk va0 va0 vb vc vd ve vf vg).cells 169 (0, 0))) := ⟨zCc (cur := (V8.mk va0 vb vc vd ve vf vg vh).cells.toList) HV5.out (by simp [V8.cells])⟩
     have HB6 : zAa (Below w.heap.size w (w5.setCells gv 1 ((V8.mk va0 vb vc vd ve vf vg vh).cells.toList.take 7))) := ⟨zBk HB5.out HZ.out.1⟩
     generalize w5.setCells gv 1 ((V8.mk va0 vb vc vd ve vf vg vh).cells.toList.take 7) = w6 at HV6 HB6 ⊢
     have c0 : w6.cell? ⟨gv, 0, none⟩ = some (.int .u32 va0) := (zAc HV6.out 0).trans rfl
     have c4 : w6.cell? ⟨gv, 4, none⟩ = some (.int .u32 vd) := (zAc HV6.out 4).trans rfl
     have f0 := zAd HV6.out 0
     have f4 := zAd HV6.out 4
     go_wp2_with fail
     have HN : zAa (nextV (mainV L (ofH H.h) t) kx x = ⟨(o1 + o2) % 4294967296, va0, vb, vc, (vd + o1) % 4294967296, ve, vf, vg⟩) := ⟨by rw [← HM.out]; unfold nextV oneV twoV; simp only [HO1.out, HO2.out]⟩
     go_roundw
     case rel => exact ⟨t + 1, ⟨(o1 + o2) % 4294967296, va0, vb, vc, (vd + o1) % 4294967296, ve, vf, vg⟩, by omega, by go_num, ⟨zBh (zBh HV6.out 0 (.int .u32 ((o1 + o2) % 4294967296))) 4 (.int .u32 ((vd + o1) % 4294967296))⟩, ⟨by rw [mainV, HX.out, HK.out, HN.out]⟩, ⟨(HB6.out.setCell HZ.out.1 _).setCell HZ.out.1 _⟩⟩
     case measure => simp [intOf]; omega
    ·obtain rfl : t = 64 := by omega
     have HF0 : zAa (Fr [b] w wr) := ⟨Fr.of_below HB.out⟩
     have HH0 : zAa (HAt wr b { H with h := addH H.h V.list 0 }) := ⟨HH.out.keep HB.out⟩
     have hrg := range169 HV.out
     have hsz := size169 V
     have hiv := index169 V
     have HVV : zAa (V.list = (mainV L (ofH H.h) 64).list) := ⟨by rw [HM.out]⟩
     clear hix HV HM HB
     go_wp2_with (refine wpList_load_mid rfl 169 (.tmp 8) rfl gv 0 rfl V.cells.toList _ hrg Tryz.underlying169 rfl hsz ?_)
     clear hrg hsz
     (try simp only [Array.toArray_toList])
     generalize V.cells = vb at hiv ⊢
     generalize V.list = vl at hiv HVV HH0
     go_loopw [159] (fun v159 w' => ∃ i : Nat, i ≤ 8 ∧ v159 = .int .i64 i ∧ zAa (HAt w' b { H with h := addH H.h vl i }) ∧ zAa (Fr [b] w w')) (fun v159 _ => 8 - (intOf v159).toNat)
     case atStart => exact ⟨0, by omega, rfl, HH0, HF0⟩
     case round =>
      obtain ⟨i, hi, rfl, HI, HF⟩ := hrel
      by_cases hlt : i < 8
      ·have h1 : (i : Int) < 8 := by omega
       have hj := fun W => hiv i hlt W
       have ci := HI.out.h_cell hlt
       obtain ⟨x, hx⟩ : ∃ x, vl.getD i 0 = x := ⟨_, rfl⟩
       obtain ⟨y, hy⟩ : ∃ x, (addH H.h vl i).getD i 0 = x := ⟨_, rfl⟩
       have HX := zAa.mk hx
       have HY := zAa.mk hy
       rw [hx] at hj
       rw [hy] at ci
       clear hiv hx hy
       go_upto_region 28 with fail
       go_still_tail 11, (by kernel_rfl)
       change wpList _ _ _ _ _ wr.drew
       have HI2 : zAa (HAt wr.drew b { H with h := addH H.h vl i }) := ⟨HI.out.keep (zAg (Below.refl _ _))⟩
       have HF2 : zAa (Fr [b] w wr.drew) := ⟨HF.out.trans (Fr.of_below (F := []) (zAg (Below.refl _ _))) (by simp)⟩
       clear HI HF ci
       generalize wr.drew = w2 at HI2 HF2 ⊢
       have ci := HI2.out.h_cell hlt
       have fi := zAd HI2.out.hb i
       go_wp2_with fail
       go_roundw
       case rel => exact ⟨i + 1, by omega, by go_num, ⟨by have h9 := HI2.out.set_h hlt ((y + x) % 4294967296); rw [addH, HX.out, HY.out]; exact h9⟩, ⟨HF2.out.trans (Fr.set (F := [b]) _ (by simp) _) (by simp)⟩⟩
       case measure => simp [intOf]; omega
      ·obtain rfl : i = 8 := by omega
       go_wp2_with fail
       have HE : zAa (blockM H = { H with h := addH H.h vl 8 }) := ⟨by unfold blockM; rw [HLL.out, HVV.out]⟩
       go_end0
       exact ⟨rfl, by rw [HE.out]; exact HI.out, HF.out⟩
end Go.Proofs.YtpckachmleonlaaGreatDoor
end
