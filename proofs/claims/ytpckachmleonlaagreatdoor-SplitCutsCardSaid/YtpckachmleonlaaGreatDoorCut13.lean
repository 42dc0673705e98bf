/- Words and walks for Split and Tablet: texts of these sessions, and of the kit's print, cut down to what is used (P Q R). -/
import Derived.Test.YtpckachmleonlaaGreatDoorCut12
section
set_option linter.unusedVariables false
set_option linter.unusedSimpArgs false
namespace Go.Proofs.YtpckachmleonlaaGreatDoor
open Go.RowKit Go.Proofs.YtpckachmleonlaaGreatDoorW.PrintWords
theorem run_bytesOf_C {w : World} {A : Option Addr} {c : Nat} {l : List Int} (h : kB.C w A l.length l) : (Extern.Bytes.bytesOf (.slice A l.length c)).run Tryz.prog w = .ok ⟨(u8s l).toArray⟩ w := by
  cases A with
  | none =>
    have h0 : l = [] := by
      rcases Nat.eq_zero_or_pos l.length with h1 | h1
      · exact List.eq_nil_of_length_eq_zero h1
      · obtain ⟨ad, e, _⟩ := h.2.2 h1
        cases e
    subst h0
    rfl
  | some ad =>
    have hc : ∀ j x, l[j]? = some x → w.cell? (ad.add j) = some (.int .u8 x) := by
      intro j x hj
      have hlt : j < l.length := (List.getElem?_eq_some_iff.1 hj).1
      obtain ⟨ad2, e, _, hq⟩ := kB_at h j hlt
      injection e with e
      subst e
      rw [hq, List.getD_eq_getElem?_getD, hj]
      rfl
    have := Lib.run_loadBytesX (P := Tryz.prog) w l ad .empty hc
    simp only [Extern.Bytes.bytesOf]
    rw [this]
    congr 1
    apply ByteArray.ext
    simp [u8s, Lib.bytesOf]
theorem run_cmp146 {w : World} {A B : Option Addr} {c d : Nat} {x y : List Int} (hx : kB.C w A x.length x) (hy : kB.C w B y.length y) :
    (callFunc 146 #[.slice A x.length c, .slice B y.length d]).run Tryz.prog w = .ok (.value (.int .i64 (cmpI x y))) w := by
  rw [run_callFunc_extern Tryz.func146 (by kernel_rfl) (by kernel_rfl) (by kernel_rfl) (e := Extern.BytealgCompare.compare) (by kernel_rfl)]
  have e1 : (Extern.BytealgCompare.compare #[.slice A x.length c, .slice B y.length d]).run Tryz.prog w = .ok (.int .i64 (cmpI x y)) w := by
    change Sem.run Tryz.prog (do pure (goInt (Extern.BytealgCompare.cmp (← Extern.Bytes.bytesOf (.slice A x.length c)) (← Extern.Bytes.bytesOf (.slice B y.length d))))) w = _
    simp only [Sem.run_bind, run_bytesOf_C hx, run_bytesOf_C hy, Sem.run_pure, Result.andThen]
    rw [Lib.cmp_eq]
    rfl
  rw [e1]
  rfl
set_option maxHeartbeats 1000000 in
theorem compare_any (A B : Option Addr) (c d : Nat) (x y : List Int) (w : World) (hx : kB.C w A x.length x) (hy : kB.C w B y.length y) :
    Calls Tryz.prog 127 #[.slice A x.length c, .slice B y.length d] w fun e w' => e = .returned (.int .i64 (cmpI x y)) ∧ w' = w := by
  have hq := run_cmp146 (c := c) (d := d) hx hy
  clear hx hy
  go_enter Tryz.func127, Tryz.ntmps127
  go_wp2
  go_ret
  exact ⟨rfl, rfl⟩
structure BsAt (ks : List (List Int)) (key : List Int) (i j : Nat) : Prop where
  ij : i ≤ j
  jn : j ≤ ks.length
  lo : ∀ m, m < i → cmpI (rd_L ks m) key < 0
  hi : ∀ m, j ≤ m → m < ks.length → 0 ≤ cmpI (rd_L ks m) key
def KSorted (ks : List (List Int)) : Prop := ks.Pairwise ltI
theorem rd_lt {ks : List (List Int)} (h : KSorted ks) {i j : Nat} (hij : i < j) (hj : j < ks.length) : ltI (rd_L ks i) (rd_L ks j) := by
  have := List.pairwise_iff_getElem.1 h i j (by omega) hj hij
  simpa [rd_L, List.getD_eq_getElem?_getD, hj, (by omega : i < ks.length)] using this
theorem cmpI_le {a b c : List Int} (h : ltI a b) (k : cmpI b c < 0) : cmpI a c < 0 := ltI_trans h k
theorem cmpI_ge {a b c : List Int} (h : ltI a b) (k : 0 ≤ cmpI a c) : 0 ≤ cmpI b c := by
  rcases Int.lt_or_le (cmpI b c) 0 with h1 | h1
  · have := ltI_trans h h1
    unfold ltI at this
    omega
  · exact h1
theorem BsAt.up {ks : List (List Int)} {key : List Int} {i j h : Nat} (H : BsAt ks key i j) (hs : KSorted ks) (h1 : i ≤ h) (h2 : h < j) (hc : cmpI (rd_L ks h) key < 0) : BsAt ks key (h + 1) j :=
  ⟨by omega, H.jn, fun m hm => by
    rcases Nat.lt_or_ge m h with h3 | h3
    · exact cmpI_le (rd_lt hs h3 (by have := H.jn; omega)) hc
    · obtain rfl : m = h := by omega
      exact hc, H.hi⟩
theorem BsAt.down {ks : List (List Int)} {key : List Int} {i j h : Nat} (H : BsAt ks key i j) (hs : KSorted ks) (h1 : i ≤ h) (h2 : h < j) (hc : 0 ≤ cmpI (rd_L ks h) key) : BsAt ks key i h :=
  ⟨by omega, by have := H.jn; omega, H.lo, fun m hm hl => by
    rcases Nat.lt_or_ge h m with h3 | h3
    · exact cmpI_ge (rd_lt hs h3 hl) hc
    · obtain rfl : m = h := by omega
      exact hc⟩
set_option maxHeartbeats 2000000 in
set_option maxRecDepth 100000 in
theorem bsearch_any (A B : Option Addr) (c d : Nat) (ks : List (List Int)) (key : List Int) (w : World) (hr : Kd.C (Kd.slice 5 kB) w A ks.length ks) (hl : ks.length ≤ 1000) (hk : kB.C w B key.length key) (hs : KSorted ks) :
    Calls Tryz.prog 169 #[.slice A ks.length c, .slice B key.length d, .func (.func 127) #[] #[]] w fun e w' => w' = w ∧ ∃ i : Nat, BsAt ks key i i ∧ e = .returned (.tuple #[.int .i64 i, .bool (decide (i < ks.length) && (cmpI (rd_L ks i) key == 0))]) := by
  have HR := zA.mk hr
  have HK := zA.mk hk
  have HS := zA.mk hs
  obtain ⟨n, hn⟩ : ∃ n, ks.length = n := ⟨_, rfl⟩
  have HN := zA.mk hn
  rw [hn] at hl HR ⊢
  clear hr hk hs hn
  go_enter Tryz.func169, Tryz.ntmps169
  go_wp2_with fail
  go_loop [9, 10, 11] (fun vi vj vh => ∃ i j : Nat, i ≤ j ∧ j ≤ n ∧ vi = .int .i64 i ∧ vj = .int .i64 j ∧ zA (BsAt ks key i j)) (fun vi vj _ => (intOf vj).toNat - (intOf vi).toNat)
  case atStart => exact ⟨0, n, by omega, by omega, rfl, rfl, ⟨by omega, by rw [HN.out]; exact Nat.le_refl _, fun m hm => by omega, fun m h1 h2 => by rw [HN.out] at h2; omega⟩⟩
  case round =>
    obtain ⟨i, j, hij, hj, rfl, rfl, HA⟩ := hrel
    by_cases hlt : i < j
    · have hi0 : (0:Int) ≤ (i:Int) + j := by omega
      have hi1 : (i:Int) + j ≤ 2000 := by omega
      obtain ⟨h, hh, h1, h2⟩ : ∃ h : Nat, ((i:Int) + j) / 2 = h ∧ i ≤ h ∧ h < j := ⟨(i + j) / 2, by omega, by omega, by omega⟩
      have h3 : (h : Int) < n := by omega
      obtain ⟨ad, A0, c0, rfl, hbl, k1, k2, k3⟩ := rowAt HR.out h (by omega)
      have HC := zA.mk (compare_any A0 B c0 d (rd_L ks h) key w k3 HK.out)
      clear k3
      by_cases hcm : cmpI (rd_L ks h) key < 0
      · have HX := zA.mk (HA.out.up HS.out h1 h2 hcm)
        have hd : decide (cmpI (rd_L ks h) key < 0) = true := dt hcm
        obtain ⟨r, hr⟩ : ∃ r, cmpI (rd_L ks h) key = r := ⟨_, rfl⟩
        rw [hr] at HC hd hcm
        clear hr
        go_wp2_with (go_at_call 127; refine HC.out.mono ?_; rintro e w1 ⟨rfl, rfl⟩)
        go_round
        case rel => exact ⟨h + 1, j, by omega, by omega, by go_num, rfl, HX⟩
        case measure => simp [intOf]; omega
      · have HX := zA.mk (HA.out.down HS.out h1 h2 (by omega))
        have hd : decide (cmpI (rd_L ks h) key < 0) = false := df hcm
        obtain ⟨r, hr⟩ : ∃ r, cmpI (rd_L ks h) key = r := ⟨_, rfl⟩
        rw [hr] at HC hd hcm
        clear hr
        go_wp2_with (go_at_call 127; refine HC.out.mono ?_; rintro e w1 ⟨rfl, rfl⟩)
        go_round
        case rel => exact ⟨i, h, by omega, by omega, rfl, rfl, HX⟩
        case measure => simp [intOf]; omega
    · obtain rfl : i = j := by omega
      by_cases hil : i < n
      · have h3 : (i : Int) < n := by omega
        obtain ⟨ad, A0, c0, rfl, hbl, k1, k2, k3⟩ := rowAt HR.out i (by omega)
        have HC := zA.mk (compare_any A0 B c0 d (rd_L ks i) key w k3 HK.out)
        clear k3
        go_wp2_with (go_at_call 127; refine HC.out.mono ?_; rintro e w1 ⟨rfl, rfl⟩)
        go_ret2
        exact ⟨rfl, i, HA.out, by simp [hil]⟩
      · go_wp2_with fail
        go_ret2
        exact ⟨rfl, i, HA.out, by simp [hil]⟩
end Go.Proofs.YtpckachmleonlaaGreatDoor
end
section
set_option linter.unusedVariables false
set_option linter.unusedSimpArgs false
namespace Go.Proofs.YtpckachmleonlaaGreatDoor
open Go.RowKit Go.Proofs.YtpckachmleonlaaGreatDoorW.PrintWords
set_option maxHeartbeats 1000000 in
theorem find_any (ok : Nat → Prop) (g n : Nat) (js : List Jt) (ks : List (Option Nat)) (h : List Int) (m : Nat) (B : Option Addr) (d : Nat) (key : List Int) (w : World) (hN : zGc ok w g n js ks h m) (hs : KSorted (js.map (·.1.2))) (hl : js.length ≤ 1000) (hk : kB.C w B key.length key) :
    Calls Tryz.prog 159 #[.pointer (some ⟨g, 0, none⟩), .slice B key.length d] w fun e w' => w' = w ∧ ∃ i : Nat, BsAt (js.map (·.1.2)) key i i ∧ e = .returned (.tuple #[.int .i64 i, .bool (decide (i < js.length) && (cmpI (rd_L (js.map (·.1.2)) i) key == 0))]) := by
  obtain ⟨Ak, ck, Av, cv, Ac, cc, As, cs, h1, h2, -⟩ := hN.ex
  have hc : w.cell? ⟨g, 1, none⟩ = some (.slice Ak js.length ck) := (zAa h1 1).trans rfl
  have hlt := zBa h1
  have hd := h2.now.deep
  rw [List.map_map] at hd
  have hL : (js.map (·.1.2)).length = js.length := List.length_map _
  have hd2 : Kd.C (Kd.slice 5 kB) w Ak (js.map (·.1.2)).length (js.map (·.1.2)) := hd
  have HB := zA.mk (bsearch_any Ak B ck d (js.map (·.1.2)) key w hd2 (by rw [hL]; exact hl) hk hs)
  rw [hL] at HB
  clear h1 h2 hN hd hd2 hk hs hL
  generalize js.map (·.1.2) = kk at HB ⊢
  generalize js.length = m at HB hc hl ⊢
  go_enter Tryz.func159, Tryz.ntmps159
  go_wp2_with fail
  refine HB.out.mono ?_
  rintro e w1 ⟨rfl, i, hA, rfl⟩
  have HA := zA.mk hA
  obtain ⟨b, hb⟩ : ∃ b, (decide (i < m) && (cmpI (rd_L kk i) key == 0)) = b := ⟨_, rfl⟩
  have HBB := zA.mk hb
  clear hA
  rw [hb]
  clear hb
  go_wp2_with fail
  go_ret2
  exact ⟨rfl, i, HA.out, by rw [HBB.out]; rfl⟩
inductive Found (js : List Jt) (key : List Int) : Nat → Bool → Prop
  | there {P Q : List Jt} {q : Jt} : js = P ++ q :: Q → q.1.2 = key → zG (P.map Jt.it) key → Above key (Q.map Jt.it) → Found js key P.length true
  | not_ {P Q : List Jt} : js = P ++ Q → zG (P.map Jt.it) key → Above key (Q.map Jt.it) → Found js key P.length false
theorem found_of {js : List Jt} {key : List Int} {i : Nat} (h : BsAt (js.map (·.1.2)) key i i) (hs : KSorted (js.map (·.1.2))) (hb : ∀ j ∈ js, IsB j.1.2) (hk : IsB key) : Found js key i (decide (i < js.length) && (cmpI (rd_L (js.map (·.1.2)) i) key == 0)) := by
  have hil : i ≤ js.length := by have := h.jn; rwa [List.length_map] at this
  have hrd : ∀ m (hm : m < js.length), rd_L (js.map (·.1.2)) m = js[m].1.2 := fun m hm => by simp [rd_L, List.getD_eq_getElem?_getD, hm]
  have hlo : zG ((js.take i).map Jt.it) key := by
    intro x hx
    obtain ⟨j, hj, rfl⟩ := List.mem_map.1 hx
    obtain ⟨m, hm, rfl⟩ := List.mem_iff_getElem.1 hj
    have hm2 : m < i := by rw [List.length_take] at hm; omega
    have := h.lo m hm2
    rw [hrd m (by omega)] at this
    simpa [Jt.it, ltI] using this
  have hpl : (js.take i).length = i := by rw [List.length_take]; omega
  by_cases hlt : i < js.length
  · have hge := h.hi i (Nat.le_refl _) (by rw [List.length_map]; exact hlt)
    rw [hrd i hlt] at hge
    rw [hrd i hlt]
    by_cases h0 : cmpI js[i].1.2 key = 0
    · have e : js = js.take i ++ js[i] :: js.drop (i + 1) := by rw [← List.drop_eq_getElem_cons hlt, List.take_append_drop]
      have hab : Above key ((js.drop (i + 1)).map Jt.it) := by
        intro x hx
        obtain ⟨j, hj, rfl⟩ := List.mem_map.1 hx
        obtain ⟨m, hm, rfl⟩ := List.mem_iff_getElem.1 hj
        rw [List.length_drop] at hm
        have h2 := rd_lt hs (i := i) (j := i + 1 + m) (by omega) (by rw [List.length_map]; omega)
        rw [hrd i hlt, hrd (i + 1 + m) (by omega)] at h2
        have e2 : js[i].1.2 = key := cmpI_eq (hb _ (List.getElem_mem hlt)) hk h0
        rw [e2] at h2
        simpa [Jt.it] using h2
      have := Found.there e (cmpI_eq (hb _ (List.getElem_mem hlt)) hk h0) hlo hab
      rw [hpl] at this
      simpa [hlt, h0] using this
    · have hab : Above key ((js.drop i).map Jt.it) := by
        intro x hx
        obtain ⟨j, hj, rfl⟩ := List.mem_map.1 hx
        obtain ⟨m, hm, rfl⟩ := List.mem_iff_getElem.1 hj
        rw [List.length_drop] at hm
        have h1 : ltI key js[i].1.2 := ltI_of_gt (by omega)
        rcases Nat.eq_zero_or_pos m with rfl | hm0
        · simpa [Jt.it] using h1
        · have h2 := rd_lt hs (i := i) (j := i + m) (by omega) (by rw [List.length_map]; omega)
          rw [hrd i hlt, hrd (i + m) (by omega)] at h2
          have := ltI_trans h1 h2
          simpa [Jt.it] using this
      have := Found.not_ (List.take_append_drop i js).symm hlo hab
      rw [hpl] at this
      have e0 : (cmpI js[i].1.2 key == 0) = false := by rw [beq_eq_false_iff_ne]; exact h0
      rw [e0, Bool.and_false]
      exact this
  · have := Found.not_ (List.take_append_drop i js).symm hlo (by rw [List.drop_eq_nil_of_le (by omega)]; intro x hx; simp at hx)
    rw [hpl] at this
    simpa [hlt] using this
end Go.Proofs.YtpckachmleonlaaGreatDoor
end
section
set_option linter.unusedVariables false
set_option linter.unusedSimpArgs false
namespace Go.Proofs.YtpckachmleonlaaGreatDoor
open Go.RowKit Go.Proofs.YtpckachmleonlaaGreatDoorW.PrintWords
theorem RAt.take {w : World} {A : Option Addr} {c c' i : Nat} {ys : List (Hd × List Int)} (h : RAt w A c ys) (hi : i ≤ ys.length) (hc : i ≤ c') : RAt w A c' (ys.take i) := by
  refine ⟨?_, by rw [List.length_take]; omega, fun y hy => h.b y (List.mem_of_mem_take hy)⟩
  have h1 := h.row
  rw [show ys.length = (ys.map (·.1)).length from (List.length_map _).symm] at h1
  have := Kd.C_take (m := i) h1 (by rw [List.length_map]; exact hi)
  rw [← List.map_take, List.length_map] at this
  exact this
theorem RAt.drop {w : World} {A : Option Addr} {c i : Nat} {ys : List (Hd × List Int)} (h : RAt w A c ys) (hi : i ≤ ys.length) : RAt w (if c = i then A else A.map (·.add i)) (c - i) (ys.drop i) := by
  refine ⟨?_, by rw [List.length_drop]; have := h.c; omega, fun y hy => h.b y (List.mem_of_mem_drop hy)⟩
  have h1 := h.row
  rw [show ys.length = (ys.map (·.1)).length from (List.length_map _).symm] at h1
  have := Kd.C_drop (m := i) (c := c) h1 (by rw [List.length_map]; exact hi) (by rw [List.length_map]; exact h.c)
  rw [← List.map_drop, List.length_map, show i * (Kd.sz kS) = i from Nat.mul_one i] at this
  exact this
theorem PAt.take {w : World} {A : Option Addr} {c c' i : Nat} {ks : List (Option Nat)} (h : PAt w A c ks) (hi : i ≤ ks.length) (hc : i ≤ c') : PAt w A c' (ks.take i) :=
  ⟨Kd.C_take (m := i) h.row hi, by rw [List.length_take]; omega⟩
theorem PAt.drop {w : World} {A : Option Addr} {c i : Nat} {ks : List (Option Nat)} (h : PAt w A c ks) (hi : i ≤ ks.length) : PAt w (if c = i then A else A.map (·.add i)) (c - i) (ks.drop i) :=
  ⟨by have := Kd.C_drop (m := i) (c := c) h.row hi h.c; rwa [show i * (Kd.sz kP) = i from Nat.mul_one i] at this, by rw [List.length_drop]; have := h.c; omega⟩
theorem add_succ (ad : Addr) (i : Nat) : ad.add (i + 1) = ⟨ad.block, ad.off + (i + 1), none⟩ := by unfold Addr.add; simp
theorem kids_at {zs : List Kid} {i : Nat} (h : i < zs.length) : ∃ A z C, zs = A ++ z :: C ∧ A.length = i := ⟨zs.take i, zs[i], zs.drop (i + 1), by rw [← List.drop_eq_getElem_cons h, List.take_append_drop], by rw [List.length_take]; omega⟩
theorem PAt_FF {w : World} {base : Nat} {ok : Nat → Prop} {A : Option Addr} {n c : Nat} {xs : List (Option Nat)} (h : Kd.R kP 110 w base ok (.slice A n c) xs) : FF (fun W => PAt W A c xs) (fun k => base ≤ k) w := (R_FF h).imp fun W ⟨h1, h2, h3⟩ => ⟨h2 ▸ h1, h2 ▸ h3⟩
theorem sorted_keys {js : List Jt} (h : Sorted (js.map Jt.it)) : KSorted (js.map (·.1.2)) := by
  unfold KSorted
  rw [List.pairwise_map]
  exact (List.pairwise_map.1 h).imp fun h => h
theorem mem_partL {n : Nat} {js : List Jt} {zs : List Kid} (h : LvOk n (zs.map (·.2)) (js.map Jt.it)) (x : It) : x ∈ partL js zs ↔ x ∈ js.map Jt.it ∨ ∃ z ∈ zs, x ∈ z.2 := by
  rw [partL, mem_inter h.len]
  refine or_congr_right ⟨?_, ?_⟩
  · rintro ⟨s, hs, hx⟩
    obtain ⟨z, hz, rfl⟩ := List.mem_map.1 hs
    exact ⟨z, hz, hx⟩
  · rintro ⟨z, hz, hx⟩
    exact ⟨z.2, List.mem_map_of_mem hz, hx⟩
theorem kid_len {n : Nat} {js : List Jt} {zs : List Kid} (h : LvOk n (zs.map (·.2)) (js.map Jt.it)) (hj : js ≠ []) : ∀ z ∈ zs, z.2.length < (partL js zs).length := fun z hz => by
  have := inter_len h.len z.2 (List.mem_map_of_mem hz)
  have h2 := List.length_pos_iff.2 hj
  rw [List.length_map] at this
  unfold partL
  omega
theorem ItOk.sub {l l' : List It} (h : ItOk l) (hl : l'.length ≤ l.length) (hm : ∀ x ∈ l', x ∈ l) : ItOk l' := ⟨Nat.le_trans hl h.n, fun x hx => h.k x (hm x hx)⟩
theorem inter_kids : ∀ {ss : List (List It)} {is : List It}, ss.length = is.length + 1 → Sorted (inter ss is) → ∀ s ∈ ss, Sorted s
  | [s], [], _, hs => fun t ht => by
    rw [List.mem_singleton.1 ht]
    exact hs
  | s :: ss, i :: is, h, hs => fun t ht => by
    have h1 : ss.length = is.length + 1 := by simpa using h
    obtain ⟨h0, h2, _⟩ := Sorted.app (a := s) (b := i :: inter ss is) hs
    rcases List.mem_cons.1 ht with rfl | ht
    · exact h0
    · exact inter_kids h1 (List.pairwise_cons.1 h2).2 t ht
  | [], _, h, _ => by simp at h
  | _ :: _ :: _, [], h, _ => by simp at h
theorem kid_sorted {n : Nat} {js : List Jt} {zs : List Kid} (h : LvOk n (zs.map (·.2)) (js.map Jt.it)) (hs : Sorted (partL js zs)) : ∀ z ∈ zs, Sorted z.2 := fun z hz => inter_kids h.len hs z.2 (List.mem_map_of_mem hz)
theorem split_law {n : Nat} {P Q : List Jt} {A C : List Kid} {z : Kid} {key : List Int} {la lb : List It} {a b : Option Nat} (hl : LvOk n ((A ++ z :: C).map (·.2)) ((P ++ Q).map Jt.it)) (hA : A.length = P.length) (hs : Sorted (partL (P ++ Q) (A ++ z :: C)))
    (hP : zG (P.map Jt.it) key) (hQ : Above key (Q.map Jt.it)) (hz : z.2 = la ++ lb) (hla : zG la key) (hlb : Above key lb) :
    partL (P ++ Q) (A ++ z :: C) = partL P (A ++ [(a, la)]) ++ partL Q ((b, lb) :: C) ∧ LvOk n ((A ++ [(a, la)]).map (·.2)) (P.map Jt.it) ∧ LvOk n (((b, lb) :: C).map (·.2)) (Q.map Jt.it) ∧ zG (partL P (A ++ [(a, la)])) key ∧ Above key (partL Q ((b, lb) :: C)) := by
  have hlen := hl.len
  have hC : C.length = Q.length := by simp at hlen; omega
  have e : partL (P ++ Q) (A ++ z :: C) = partL P (A ++ [(a, la)]) ++ partL Q ((b, lb) :: C) := by
    simp only [partL, List.map_append, List.map_cons, List.map_nil, hz]
    exact inter_cut (by simp [hA])
  have l1 : LvOk n ((A ++ [(a, la)]).map (·.2)) (P.map Jt.it) := by
    refine ⟨by simp [hA], fun i hi => hl.keys i (by rw [List.map_append]; exact List.mem_append_left _ hi), fun s hs x hx => ?_⟩
    rw [List.map_append] at hs
    rcases List.mem_append.1 hs with h | h
    · exact hl.below s (by rw [List.map_append]; exact List.mem_append_left _ h) x hx
    · simp only [List.map_cons, List.map_nil, List.mem_singleton] at h
      subst h
      exact hl.below z.2 (by simp) x (by rw [hz]; exact List.mem_append_left _ hx)
  have l2 : LvOk n (((b, lb) :: C).map (·.2)) (Q.map Jt.it) := by
    refine ⟨by simp [hC], fun i hi => hl.keys i (by rw [List.map_append]; exact List.mem_append_right _ hi), fun s hs x hx => ?_⟩
    rw [List.map_cons] at hs
    rcases List.mem_cons.1 hs with h | h
    · subst h
      exact hl.below z.2 (by simp) x (by rw [hz]; exact List.mem_append_right _ hx)
    · exact hl.below s (by rw [List.map_append, List.map_cons]; exact List.mem_append_right _ (List.mem_cons_of_mem _ h)) x hx
  rw [e] at hs
  obtain ⟨s1, s2, _⟩ := hs.app
  refine ⟨e, l1, l2, ?_, ?_⟩
  · have := inter_below (x := la) (k := key) (A := A.map (·.2)) (P := P.map Jt.it) (by simp [hA]) (by simpa [partL] using s1) hP hla
    simpa [partL] using this
  · have := inter_above (k := key) (B := C.map (·.2)) (y := lb) (Q := Q.map Jt.it) (by simp [hC]) (by simpa [partL] using s2) hQ hlb
    simpa [partL] using this
end Go.Proofs.YtpckachmleonlaaGreatDoor
end
