/- Words and walks for Split and Tablet: texts of these sessions, and of the kit's print, cut down to what is used (A2 B2 C2). -/
import Derived.Test.YtpckachmleonlaaGreatDoorCu13
section
set_option linter.unusedVariables false
set_option linter.unusedSimpArgs false
namespace Go.Proofs.YtpckachmleonlaaGreatDoor
open Go.RowKit Go.Proofs.YtpckachmleonlaaGreatDoorW.PrintWords
def PutPost (ok : Nat → Prop) (l : List It) (key val : List Int) (w : World) (e : Ending) (w' : World) : Prop := ∃ o l', e = .returned (ptrV o) ∧ PutL l key val l' ∧ PartAt ok w' o l' ∧ Below w.heap.size w w'
structure PutI (key val : List Int) : Prop where
  k : key.length ≤ 256
  v : val.length ≤ 1100
  b : IsB key
theorem ItOk.put {l l' : List It} {key val : List Int} (h : ItOk l) (hn : l.length < 100) (hp : PutI key val) (hl : PutL l key val l') : ItOk l' := by
  obtain ⟨la, mid, lb, rfl, _, _, hm, rfl⟩ := hl
  refine ⟨?_, fun x hx => ?_⟩
  · simp only [List.length_append, List.length_cons] at hn ⊢
    omega
  · rcases List.mem_append.1 hx with hx | hx
    · exact h.k x (by simp [hx])
    · rcases List.mem_cons.1 hx with rfl | hx
      · exact ⟨hp.k, hp.v, hp.b⟩
      · exact h.k x (by simp [hx])
theorem row1_FF {ok : Nat → Prop} {w : World} {g t : Nat} {h : Hd} {l : List Int} (hb : w.heap[g]? = some (.cells #[h.v] t (0, 0))) (hf : FF (fun W => BAt W h l) ok w) (hg : ok g) : FF (fun W => RAt W (some ⟨g, 0, none⟩) 1 [(h, l)]) ok w := fun W hW => by
  have hb2 : W.heap[g]? = some (.cells #[h.v] t (0, 0)) := (hW g hg (zAi hb)).trans hb
  refine ⟨⟨rfl, by simp, fun _ => ⟨_, rfl, fun j p hj => ?_⟩⟩, Nat.le_refl _, fun y hy => ?_⟩
  · have hj0 : j = 0 := by
      have := (List.getElem?_eq_some_iff.1 hj).1
      simp at this
      omega
    subst hj0
    injection hj with hj
    subst hj
    refine ⟨[h.v], rfl, rfl, fun i u hu => ?_⟩
    rw [Addr.add_mid, cell_of_row W g _ _ t (0, 0) hb2]
    have hi0 : i = 0 := by
      have := (List.getElem?_eq_some_iff.1 hu).1
      simp at this
      omega
    subst hi0
    simpa using hu
  · rw [List.mem_singleton.1 hy]
    exact hf W hW
theorem pts2_FF {ok : Nat → Prop} {w : World} {g t : Nat} {a b : Option Nat} {va vb : Value} (hb : w.heap[g]? = some (.cells #[va, vb] t (0, 0))) (ea : ptrV a = va) (eb : ptrV b = vb) (hg : ok g) : FF (fun W => PAt W (some ⟨g, 0, none⟩) 2 [a, b]) ok w := fun W hW => by
  subst ea
  subst eb
  have hb2 : W.heap[g]? = some (.cells #[ptrV a, ptrV b] t (0, 0)) := (hW g hg (zAi hb)).trans hb
  refine ⟨⟨rfl, by simp, fun _ => ⟨_, rfl, fun j p hj => ?_⟩⟩, Nat.le_refl _⟩
  have hj2 : j < 2 := (List.getElem?_eq_some_iff.1 hj).1
  rcases (by omega : j = 0 ∨ j = 1) with rfl | rfl
  all_goals
    injection hj with hj
    subst hj
    refine ⟨[ptrV _], rfl, rfl, fun i u hu => ?_⟩
    rw [Addr.add_mid, cell_of_row W g _ _ t (0, 0) hb2]
    have hi0 : i = 0 := by
      have := (List.getElem?_eq_some_iff.1 hu).1
      simp at this
      omega
    subst hi0
    simpa [show Kd.sz kP = 1 from rfl] using hu
theorem hM1 (W : World) {C1 : Array Value} {t1 : Nat} (o2 o3 : Obj) : (((W.alloc (.cells C1 t1)).alloc o2).alloc o3).heap[W.heap.size]? = some (.cells C1 t1 (0, 0)) := zAh (zAh (heap_alloc_new W _) _) _
theorem hM2 (W : World) {C2 : Array Value} {t2 : Nat} (o1 o3 : Obj) : (((W.alloc o1).alloc (.cells C2 t2)).alloc o3).heap[W.heap.size + 1]? = some (.cells C2 t2 (0, 0)) := zAh (hN3 W o1 _) _
theorem hM3 (W : World) (o1 o2 o3 : Obj) : (((W.alloc o1).alloc o2).alloc o3).heap[W.heap.size + 2]? = some o3 := by
  have h := heap_alloc_new ((W.alloc o1).alloc o2) o3
  rwa [World.size_alloc, World.size_alloc] at h
set_option maxHeartbeats 4000000 in
set_option maxRecDepth 100000 in
theorem put_lo0 (ok : Nat → Prop) (B V : Option Addr) (d e : Nat) (key val : List Int) (hp : PutI key val) (l : List It) (w : World) (hok : ∀ k, w.heap.size ≤ k → ok k) (hpt : PartAt ok w none l) (hi : ItOk l) (hn : l.length < 100) (hs : Sorted l)
    (hk : FF (fun W => BAt W ⟨B, key.length, d⟩ key) ok w) (hv : FF (fun W => BAt W ⟨V, val.length, e⟩ val) ok w) (hlv : ∀ x ∈ l, zBg x.1 < zBg key) :
    Calls Tryz.prog 141 #[ptrV none, .int .i64 (zBg key), .slice B key.length d, .slice V val.length e] w (PutPost ok l key val w) := by
  have HSP := zA.mk (split_any ok B d key hp.b (l.length + 1) none l w (Nat.lt_succ_self _) hok hpt hi hs hk.now.row (fun x hx e => by have := hlv x hx; rw [e] at this; exact absurd this (Nat.lt_irrefl _)))
  have HP := zA.mk hp
  have HOK := zA.mk hok
  have HI := zA.mk (And.intro hi hn)
  have HK := zA.mk hk
  have HV := zA.mk hv
  have HLV := zA.mk hlv
  clear hp hok hpt hi hn hs hk hv hlv
  have hl64 := levelM_le key
  obtain ⟨lv, hlve⟩ : ∃ lv, zBg key = lv := ⟨_, rfl⟩
  have HLE := zA.mk hlve
  rw [hlve] at HLV hl64
  rw [hlve]
  clear hlve
  change Calls Tryz.prog 141 #[.pointer none, .int .i64 lv, .slice B key.length d, .slice V val.length e] w _
  change zA (Calls Tryz.prog 157 #[.pointer none, .slice B key.length d] w _) at HSP
  obtain ⟨kl, hkl⟩ : ∃ kl, key.length = kl := ⟨_, rfl⟩
  obtain ⟨vl, hvl⟩ : ∃ vl, val.length = vl := ⟨_, rfl⟩
  rw [hkl] at HSP HK ⊢
  rw [hvl] at HV ⊢
  clear hkl hvl
  go_enter Tryz.func141, Tryz.ntmps141
  go_wp2_with fail
  refine HSP.out.mono ?_
  rintro e2 w2 ⟨a, b, la, lb, he, hab, hla, hlb, hpa, hpb, hb2⟩
  obtain ⟨pa, hPa⟩ := zDa a
  obtain ⟨pb, hPb⟩ := zDa b
  rw [hPa, hPb] at he
  subst he
  have HPa := zA.mk hPa
  have HPb := zA.mk hPb
  have HAB := zA.mk hab
  have HLAB := zA.mk (And.intro hla hlb)
  have HPA := zA.mk hpa
  have HPB := zA.mk hpb
  have HB2 := zA.mk hb2
  clear hab hla hlb hpa hpb hb2 hPa hPb HSP
  go_wp2_with fail
  have HW : zA (∀ o1 o2 o3 : Obj, Below w.heap.size w (((w2.alloc o1).alloc o2).alloc o3)) := ⟨fun o1 o2 o3 => zAa (zAa (zAa HB2.out _) _) _⟩
  have hT := put_top (n := lv) (j := ((⟨B, kl, d⟩, key), (⟨V, vl, e⟩, val))) (a := a) (b := b) (la := la) (lb := lb) (key := key) (val := val) rfl HLE.out (fun x hx => HLV.out x (by rw [HAB.out]; exact List.mem_append_left _ hx)) (fun x hx => HLV.out x (by rw [HAB.out]; exact List.mem_append_right _ hx))
  have hPL : PutL l key val (la ++ (key, val) :: lb) := ⟨la, [], lb, by rw [HAB.out, List.append_nil], HLAB.out.1, HLAB.out.2, .inl rfl, rfl⟩
  have HT := zA.mk hT
  have HPL := zA.mk hPL
  clear hT hPL
  have hcall := node_any ok lv (some ⟨w2.heap.size, 0, none⟩) (some ⟨w2.heap.size + 1, 0, none⟩) (some ⟨w2.heap.size + 2, 0, none⟩) 1 1 2 [((⟨B, kl, d⟩, key), (⟨V, vl, e⟩, val))] [(a, la), (b, lb)] (((w2.alloc (.cells #[.slice B kl d] 47)).alloc (.cells #[.slice V vl e] 47)).alloc (.cells #[.pointer pa, .pointer pb] 110))
    (fun k hk => HOK.out k (Nat.le_trans (HW.out _ _ _).size hk)) (row1_FF (h := ⟨B, kl, d⟩) (hM1 w2 _ _) (HK.out.keep (HW.out _ _ _)) (HOK.out _ HB2.out.size)) (row1_FF (h := ⟨V, vl, e⟩) (hM2 w2 _ _) (HV.out.keep (HW.out _ _ _)) (HOK.out _ (by have := HB2.out.size; omega))) (pts2_FF (hM3 w2 _ _ _) HPa.out HPb.out (HOK.out _ (by have := HB2.out.size; omega)))
    (fun y hy => by
      simp only [List.mem_cons, List.not_mem_nil, or_false] at hy
      rcases hy with rfl | rfl
      · exact HPA.out.keep (zAa (zAa (zAa (Below.refl _ _) _) _) _)
      · exact HPB.out.keep (zAa (zAa (zAa (Below.refl _ _) _) _) _)) HT.out.2 (by rw [HT.out.1]; exact HI.out.1.put HI.out.2 HP.out HPL.out)
  refine hcall.mono ?_
  rintro e3 w3 ⟨o3, he, hp3, hb3⟩
  obtain ⟨p3, hp3'⟩ := zDa o3
  rw [hp3'] at he
  subst he
  rw [HT.out.1] at hp3
  have HP3 := zA.mk hp3
  have HP3' := zA.mk hp3'
  have HB3 : zA (Below w.heap.size w w3) := ⟨bl_to (HW.out _ _ _) hb3⟩
  clear hcall hp3 hp3' hb3
  go_wp2_with fail
  go_ret
  exact ⟨o3, _, by rw [HP3'.out]; rfl, HPL.out, HP3.out, HB3.out⟩
set_option maxHeartbeats 4000000 in
set_option maxRecDepth 100000 in
theorem put_lo1 (ok : Nat → Prop) (B V : Option Addr) (d e : Nat) (key val : List Int) (hp : PutI key val) (g n : Nat) (cs : Array Value) (l : List It) (w : World) (hok : ∀ k, w.heap.size ≤ k → ok k) (hpt : PartAt ok w (some g) l) (hi : ItOk l) (hn : l.length < 100) (hs : Sorted l)
    (hk : FF (fun W => BAt W ⟨B, key.length, d⟩ key) ok w) (hv : FF (fun W => BAt W ⟨V, val.length, e⟩ val) ok w) (hlv : ∀ x ∈ l, zBg x.1 < zBg key) (hblk : w.heap[g]? = some (.cells cs 150 (0, 0))) (hcs : cs[0]? = some (.int .i64 n)) (hnl : n < zBg key) :
    Calls Tryz.prog 141 #[ptrV (some g), .int .i64 (zBg key), .slice B key.length d, .slice V val.length e] w (PutPost ok l key val w) := by
  have HSP := zA.mk (split_any ok B d key hp.b (l.length + 1) (some g) l w (Nat.lt_succ_self _) hok hpt hi hs hk.now.row (fun x hx e => by have := hlv x hx; rw [e] at this; exact absurd this (Nat.lt_irrefl _)))
  have HP := zA.mk hp
  have HOK := zA.mk hok
  have HI := zA.mk (And.intro hi hn)
  have HK := zA.mk hk
  have HV := zA.mk hv
  have HLV := zA.mk hlv
  have hc : w.cell? ⟨g, 0, none⟩ = some (.int .i64 n) := (zAb hblk 0).trans hcs
  have hgl := zAi hblk
  have ht1 : decide ((n : Int) < (zBg key : Int)) = true := dt (by omega)
  have ht2 : (n : Int) < (zBg key : Int) := by omega
  clear hblk hnl
  clear hp hok hpt hi hn hs hk hv hlv
  have hl64 := levelM_le key
  obtain ⟨lv, hlve⟩ : ∃ lv, zBg key = lv := ⟨_, rfl⟩
  have HLE := zA.mk hlve
  rw [hlve] at HLV hl64 ht1 ht2
  rw [hlve]
  clear hlve
  change Calls Tryz.prog 141 #[.pointer (some ⟨g, 0, none⟩), .int .i64 lv, .slice B key.length d, .slice V val.length e] w _
  change zA (Calls Tryz.prog 157 #[.pointer (some ⟨g, 0, none⟩), .slice B key.length d] w _) at HSP
  obtain ⟨kl, hkl⟩ : ∃ kl, key.length = kl := ⟨_, rfl⟩
  obtain ⟨vl, hvl⟩ : ∃ vl, val.length = vl := ⟨_, rfl⟩
  rw [hkl] at HSP HK ⊢
  rw [hvl] at HV ⊢
  clear hkl hvl
  go_enter Tryz.func141, Tryz.ntmps141
  go_wp2_with fail
  refine HSP.out.mono ?_
  rintro e2 w2 ⟨a, b, la, lb, he, hab, hla, hlb, hpa, hpb, hb2⟩
  obtain ⟨pa, hPa⟩ := zDa a
  obtain ⟨pb, hPb⟩ := zDa b
  rw [hPa, hPb] at he
  subst he
  have HPa := zA.mk hPa
  have HPb := zA.mk hPb
  have HAB := zA.mk hab
  have HLAB := zA.mk (And.intro hla hlb)
  have HPA := zA.mk hpa
  have HPB := zA.mk hpb
  have HB2 := zA.mk hb2
  clear hab hla hlb hpa hpb hb2 hPa hPb HSP
  go_wp2_with fail
  have HW : zA (∀ o1 o2 o3 : Obj, Below w.heap.size w (((w2.alloc o1).alloc o2).alloc o3)) := ⟨fun o1 o2 o3 => zAa (zAa (zAa HB2.out _) _) _⟩
  have hT := put_top (n := lv) (j := ((⟨B, kl, d⟩, key), (⟨V, vl, e⟩, val))) (a := a) (b := b) (la := la) (lb := lb) (key := key) (val := val) rfl HLE.out (fun x hx => HLV.out x (by rw [HAB.out]; exact List.mem_append_left _ hx)) (fun x hx => HLV.out x (by rw [HAB.out]; exact List.mem_append_right _ hx))
  have hPL : PutL l key val (la ++ (key, val) :: lb) := ⟨la, [], lb, by rw [HAB.out, List.append_nil], HLAB.out.1, HLAB.out.2, .inl rfl, rfl⟩
  have HT := zA.mk hT
  have HPL := zA.mk hPL
  clear hT hPL
  have hcall := node_any ok lv (some ⟨w2.heap.size, 0, none⟩) (some ⟨w2.heap.size + 1, 0, none⟩) (some ⟨w2.heap.size + 2, 0, none⟩) 1 1 2 [((⟨B, kl, d⟩, key), (⟨V, vl, e⟩, val))] [(a, la), (b, lb)] (((w2.alloc (.cells #[.slice B kl d] 47)).alloc (.cells #[.slice V vl e] 47)).alloc (.cells #[.pointer pa, .pointer pb] 110))
    (fun k hk => HOK.out k (Nat.le_trans (HW.out _ _ _).size hk)) (row1_FF (h := ⟨B, kl, d⟩) (hM1 w2 _ _) (HK.out.keep (HW.out _ _ _)) (HOK.out _ HB2.out.size)) (row1_FF (h := ⟨V, vl, e⟩) (hM2 w2 _ _) (HV.out.keep (HW.out _ _ _)) (HOK.out _ (by have := HB2.out.size; omega))) (pts2_FF (hM3 w2 _ _ _) HPa.out HPb.out (HOK.out _ (by have := HB2.out.size; omega)))
    (fun y hy => by
      simp only [List.mem_cons, List.not_mem_nil, or_false] at hy
      rcases hy with rfl | rfl
      · exact HPA.out.keep (zAa (zAa (zAa (Below.refl _ _) _) _) _)
      · exact HPB.out.keep (zAa (zAa (zAa (Below.refl _ _) _) _) _)) HT.out.2 (by rw [HT.out.1]; exact HI.out.1.put HI.out.2 HP.out HPL.out)
  refine hcall.mono ?_
  rintro e3 w3 ⟨o3, he, hp3, hb3⟩
  obtain ⟨p3, hp3'⟩ := zDa o3
  rw [hp3'] at he
  subst he
  rw [HT.out.1] at hp3
  have HP3 := zA.mk hp3
  have HP3' := zA.mk hp3'
  have HB3 : zA (Below w.heap.size w w3) := ⟨bl_to (HW.out _ _ _) hb3⟩
  clear hcall hp3 hp3' hb3
  go_wp2_with fail
  go_ret
  exact ⟨o3, _, by rw [HP3'.out]; rfl, HPL.out, HP3.out, HB3.out⟩
end Go.Proofs.YtpckachmleonlaaGreatDoor
end
section
set_option linter.unusedVariables false
set_option linter.unusedSimpArgs false
namespace Go.Proofs.YtpckachmleonlaaGreatDoor
open Go.RowKit Go.Proofs.YtpckachmleonlaaGreatDoorW.PrintWords
theorem BsAt.uniq {ks : List (List Int)} {key : List Int} {i j : Nat} (h : BsAt ks key i i) (k : BsAt ks key j j) : i = j := by
  rcases Nat.lt_trichotomy i j with h1 | h1 | h1
  · have h2 := k.lo i h1
    have h3 := h.hi i (Nat.le_refl _) (by have := k.jn; omega)
    omega
  · exact h1
  · have h2 := h.lo j h1
    have h3 := k.hi j (Nat.le_refl _) (by have := h.jn; omega)
    omega
theorem BsAt.ex (key : List Int) : ∀ {ks : List (List Int)}, KSorted ks → ∃ i, BsAt ks key i i
  | [], _ => ⟨0, Nat.le_refl _, Nat.le_refl _, fun m h => absurd h (Nat.not_lt_zero _), fun m _ h => absurd h (Nat.not_lt_zero _)⟩
  | k :: ks, hs => by
    by_cases hk : cmpI k key < 0
    · obtain ⟨i, h⟩ := BsAt.ex key (ks := ks) (List.pairwise_cons.1 hs).2
      refine ⟨i + 1, Nat.le_refl _, by have := h.jn; simp; omega, fun m hm => ?_, fun m hm hl => ?_⟩
      · match m with
        | 0 => exact hk
        | m + 1 => exact h.lo m (by omega)
      · match m with
        | 0 => omega
        | m + 1 => exact h.hi m (by omega) (by simpa using hl)
    · refine ⟨0, Nat.le_refl _, Nat.zero_le _, fun m h => absurd h (Nat.not_lt_zero _), fun m _ hl => ?_⟩
      match m with
      | 0 => show 0 ≤ cmpI k key; omega
      | m + 1 => exact cmpI_ge (rd_lt hs (Nat.succ_pos m) hl) (show 0 ≤ cmpI k key by omega)
theorem find_at (ok : Nat → Prop) (g n : Nat) (js : List Jt) (ks : List (Option Nat)) (h : List Int) (m : Nat) (B : Option Addr) (d : Nat) (key : List Int) (w : World) (hN : zFi ok w g n js ks h m) (hs : Sorted (js.map Jt.it)) (hl : js.length ≤ 1000) (hk : kB.C w B key.length key) (hb : ∀ j ∈ js, IsB j.1.2) (hkb : IsB key) :
    ∃ i b, Found js key i b ∧ Calls Tryz.prog 159 #[.pointer (some ⟨g, 0, none⟩), .slice B key.length d] w fun e w' => e = .returned (.tuple #[.int .i64 i, .bool b]) ∧ w' = w := by
  obtain ⟨i, hi⟩ := BsAt.ex key (sorted_keys hs)
  refine ⟨i, _, found_of hi (sorted_keys hs) hb hkb, (find_any ok g n js ks h m B d key w hN (sorted_keys hs) hl hk).mono ?_⟩
  rintro e w' ⟨rfl, j, hj, rfl⟩
  obtain rfl := hi.uniq hj
  exact ⟨rfl, rfl⟩
theorem rowH_FF {ok : Nat → Prop} {w : World} {g t c : Nat} {C : Array Value} {ys : List (Hd × List Int)} (hb : w.heap[g]? = some (.cells C t (0, 0))) (hC : ∀ (j : Nat) (y : Hd × List Int), ys[j]? = some y → C[j]? = some y.1.v) (hc : ys.length ≤ c) (hn : ys.length ≤ 1000) (hy : ∀ y ∈ ys, FF (fun W => BAt W y.1 y.2) ok w) (hg : ok g) : FF (fun W => RAt W (some ⟨g, 0, none⟩) c ys) ok w := fun W hW => by
  have hb2 : W.heap[g]? = some (.cells C t (0, 0)) := (hW g hg (zAi hb)).trans hb
  refine ⟨⟨List.length_map _, by omega, fun _ => ⟨_, rfl, fun j p hj => ?_⟩⟩, hc, fun y hy2 => hy y hy2 W hW⟩
  rw [List.getElem?_map] at hj
  obtain ⟨y, hy1, rfl⟩ := Option.map_eq_some_iff.1 hj
  refine ⟨[y.1.v], rfl, rfl, fun i u hu => ?_⟩
  have hi0 : i = 0 := by
    have := (List.getElem?_eq_some_iff.1 hu).1
    simp at this
    omega
  subst hi0
  rw [Addr.add_mid, cell_of_row W g _ _ t (0, 0) hb2, show 0 + (j * Kd.sz kS + 0) = j by rw [show Kd.sz kS = 1 from rfl]; omega, hC j y hy1]
  simpa using hu
theorem rowP_FF {ok : Nat → Prop} {w : World} {g t c : Nat} {C : Array Value} {ks : List (Option Nat)} (hb : w.heap[g]? = some (.cells C t (0, 0))) (hC : ∀ (j : Nat) (y : Option Nat), ks[j]? = some y → C[j]? = some (ptrV y)) (hc : ks.length ≤ c) (hn : ks.length ≤ 1000) (hg : ok g) : FF (fun W => PAt W (some ⟨g, 0, none⟩) c ks) ok w := fun W hW => by
  have hb2 : W.heap[g]? = some (.cells C t (0, 0)) := (hW g hg (zAi hb)).trans hb
  refine ⟨⟨rfl, by omega, fun _ => ⟨_, rfl, fun j p hj => ?_⟩⟩, hc⟩
  refine ⟨[ptrV p], rfl, rfl, fun i u hu => ?_⟩
  have hi0 : i = 0 := by
    have := (List.getElem?_eq_some_iff.1 hu).1
    simp at this
    omega
  subst hi0
  rw [Addr.add_mid, cell_of_row W g _ _ t (0, 0) hb2, show 0 + (j * Kd.sz kP + 0) = j by rw [show Kd.sz kP = 1 from rfl]; omega, hC j p hj]
  simpa using hu
theorem own_block {α : Type} {enc : α → Value} {h1 : ∀ x, (enc x).oneCell' = true} {e base : Nat} {w : World} {ok : Nat → Prop} {A : Option Addr} {n c : Nat} {xs : List α} (h : (Kd.scalar enc h1).R e w base ok (.slice A n c) xs) (hn : 0 < n) : ∃ (g : Nat) (C : Array Value), A = some ⟨g, 0, none⟩ ∧ w.heap[g]? = some (.cells C e (0, 0)) ∧ base ≤ g ∧ xs.length = n ∧ n ≤ c ∧ n ≤ C.size ∧ ∀ (j : Nat) (x : α), xs[j]? = some x → C[j]? = some (enc x) := by
  have hl := (Kd.zFc h).1
  have ho := Kd.own_of_R h
  rcases ho.2 with ⟨h0, _⟩ | ⟨g, cap, cur, hve, h1, h2, h3, h4, h5, h6⟩
  · injection h0 with _ h0 _
    omega
  · injection hve with ha _ hc
    subst ha hc
    refine ⟨g, cur, rfl, h2, h1, hl.symm, by rw [hl]; exact h3, by rw [hl]; omega, fun j x hx => ?_⟩
    have hj := (List.getElem?_eq_some_iff.1 hx).1
    have h7 : (cur.toList.take (xs.length * 1))[j]? = cur.toList[j]? := by rw [List.getElem?_take, if_pos (by omega)]
    rw [← Array.getElem?_toList, ← h7, h6]
    simp [encs, hx]
end Go.Proofs.YtpckachmleonlaaGreatDoor
end
section
set_option linter.unusedVariables false
set_option linter.unusedSimpArgs false
namespace Go.Proofs.YtpckachmleonlaaGreatDoor
open Go.RowKit Go.Proofs.YtpckachmleonlaaGreatDoorW.PrintWords
theorem keepM {w W : World} {g : Nat} {C : Array Value} {c0 c1 c3 : Value} (h : w.heap[g]? = some (.cells C 150 (0, 0))) (hb : Below w.heap.size w W) (e0 : C[0]? = some c0) (e1 : C[1]? = some c1) (e3 : C[3]? = some c3) :
    W.cell? ⟨g, 0, none⟩ = some c0 ∧ W.cell? ⟨g, 1, none⟩ = some c1 ∧ W.cell? ⟨g, 3, none⟩ = some c3 :=
  ⟨(zAb (zAe h hb) 0).trans e0, (zAb (zAe h hb) 1).trans e1, (zAb (zAe h hb) 3).trans e3⟩
set_option maxHeartbeats 8000000 in
set_option maxRecDepth 100000 in
theorem put_is_w (ok : Nat → Prop) (B V : Option Addr) (d e : Nat) (key val : List Int) (hp : PutI key val) (g n : Nat) (P Q : List Jt) (q : Jt) (A C : List Kid) (z : Kid) (w : World) (hok : ∀ k, w.heap.size ≤ k → ok k)
    (hN : zFi ok w g n (P ++ q :: Q) ((A ++ z :: C).map (·.1)) (hashT (partL (P ++ q :: Q) (A ++ z :: C))) (partL (P ++ q :: Q) (A ++ z :: C)).length) (hL : LvOk n ((A ++ z :: C).map (·.2)) ((P ++ q :: Q).map Jt.it)) (hJ : P ++ q :: Q ≠ []) (hz : ∀ y ∈ A ++ z :: C, PartAt ok w y.1 y.2) (hA : A.length = P.length)
    (hi : ItOk (partL (P ++ q :: Q) (A ++ z :: C))) (hn : (partL (P ++ q :: Q) (A ++ z :: C)).length < 100) (hs : Sorted (partL (P ++ q :: Q) (A ++ z :: C))) (hk : FF (fun W => BAt W ⟨B, key.length, d⟩ key) ok w) (hv : FF (fun W => BAt W ⟨V, val.length, e⟩ val) ok w)
    (hP : zFh (P.map Jt.it) key) (hQ : Above key (Q.map Jt.it)) (hF : Calls Tryz.prog 159 #[.pointer (some ⟨g, 0, none⟩), .slice B key.length d] w fun e w' => e = .returned (.tuple #[.int .i64 P.length, .bool true]) ∧ w' = w) (hq : q.1.2 = key) :
    Calls Tryz.prog 141 #[.pointer (some ⟨g, 0, none⟩), .int .i64 (zBg key), .slice B key.length d, .slice V val.length e] w (PutPost ok (partL (P ++ q :: Q) (A ++ z :: C)) key val w) := by
  obtain ⟨adk, ck, adv, cv, adc, cc, As, cs, h1, h2, h3, h4, h5, h6, h7, h8⟩ := hN.data hJ (by have := hL.len; simp at this ⊢; omega)
  have hj100 : (P ++ q :: Q).length ≤ 100 := by have := partL_len hL; omega
  have hzl : (A ++ z :: C).length = (P ++ q :: Q).length + 1 := by have := hL.len; simpa using this
  have hzc : (((A ++ z :: C).map (·.1)).getD P.length none) = z.1 := by rw [List.map_append, List.map_cons, List.getD_eq_getElem?_getD, List.getElem?_append_right (by rw [List.length_map, hA]; exact Nat.le_refl _), List.length_map, hA, Nat.sub_self]; rfl
  obtain ⟨pz, hpz⟩ := zDa z.1
  have hcz : w.cell? (adc.add P.length) = some (.pointer pz) := by rw [← hpz]; exact cell_of_C h4.now.row (by rw [List.length_map, List.length_append, List.length_cons, hA]; omega) hzc
  have hqn : zBg key = n := by
    have := hL.keys q.it (by simp)
    rw [show q.it.1 = q.1.2 from rfl, hq] at this
    exact this
  have hT := put_is (j := (q.1, (⟨V, val.length, e⟩, val))) hL hA hs hq (show Jt.it (q.1, (⟨V, val.length, e⟩, val)) = (key, val) by rw [← hq]; rfl) hP hQ
  have HT := zA.mk hT
  obtain ⟨i, hiP⟩ : ∃ i, P.length = i := ⟨_, rfl⟩
  obtain ⟨m, hm⟩ : ∃ m, (P ++ q :: Q).length = m := ⟨_, rfl⟩
  have him : i < m := by rw [← hiP, ← hm]; simp
  rw [hm] at h1 h5 h6 h7 h8 hj100 hzl
  rw [hiP] at hF hA hcz
  have H1 := zA.mk h1
  have H2 := zA.mk h2
  have H3 := zA.mk h3
  have H4 := zA.mk h4
  have HF := zA.mk hF
  have HP := zA.mk hp
  have HL := zA.mk hL
  have HZ := zA.mk hz
  have HA := zA.mk hA
  have HI := zA.mk (And.intro hi hn)
  have HS := zA.mk hs
  have HK := zA.mk hk
  have HV := zA.mk hv
  have HPQ := zA.mk (And.intro hP hQ)
  have HM := zA.mk hm
  have HIP := zA.mk hiP
  have HZL := zA.mk hzl
  have HPZ := zA.mk hpz
  have HOK := zA.mk hok
  have hgl := zAi h1
  have c0 : w.cell? ⟨g, 0, none⟩ = some (.int .i64 n) := (zAb h1 0).trans rfl
  have t1 : decide ((n : Int) < (zBg key : Int)) = false := df (by omega)
  have t2 : ¬ ((n : Int) < (zBg key : Int)) := by omega
  have hl64 := levelM_le key
  obtain ⟨lv, hlve⟩ : ∃ lv, zBg key = lv := ⟨_, rfl⟩
  have HLE := zA.mk hlve
  rw [hlve] at hl64 t1 t2 ⊢
  obtain ⟨kl, hkl⟩ : ∃ kl, key.length = kl := ⟨_, rfl⟩
  obtain ⟨vl, hvl⟩ : ∃ vl, val.length = vl := ⟨_, rfl⟩
  rw [hkl] at HF HK ⊢
  rw [hvl] at HV HT ⊢
  clear hlve hkl hvl h1 h2 h3 h4 hF hp hL hz hA hi hn hs hk hv hP hQ hm hiP hzl hpz hok hN hJ hzc hT hqn hq
  go_enter Tryz.func141, Tryz.ntmps141
  go_wp2_with fail
  refine HF.out.mono ?_
  rintro e1 w1 ⟨rfl, rfl⟩
  have d2 : w1.cell? ⟨g, 2, none⟩ = some (.slice (some adv) m cv) := (zAb H1.out 2).trans rfl
  have HCV := zA.mk (cloneS_any (some adv) cv (((P ++ q :: Q).map (·.2)).map (·.1)) w1 (by have := H3.out.now.row; rw [List.length_map] at this ⊢; rw [List.length_map]; exact this) (by rw [List.length_map, List.length_map, HM.out]; exact h6) (by rw [List.length_map, List.length_map, HM.out]; omega))
  rw [List.length_map, List.length_map, HM.out] at HCV
  go_wp2_with fail
  refine HCV.out.mono ?_
  rintro e3 w3 ⟨v3, rfl, hr, hb⟩
  obtain ⟨A3, c3, e3⟩ := Kd.zAk hr
  rw [List.length_map, List.length_map, HM.out] at e3
  subst e3
  obtain ⟨g3, C3, rfl, b1, b2, b3, b4, b5, b6⟩ := own_block hr h8
  have hql : (((P ++ q :: Q).map (·.2)).map (·.1))[i]? = some q.2.1 := by rw [List.map_append, List.map_append, List.getElem?_append_right (by rw [List.length_map, List.length_map, HIP.out]; exact Nat.le_refl _), List.length_map, List.length_map, HIP.out, Nat.sub_self]; rfl
  have c7 : w3.cell? ⟨g3, i, none⟩ = some q.2.1.v := (zAb b1 i).trans (b6 i _ hql)
  have f7 := zAd b1 i
  have l7 := zAi b1
  have k1 : (i : Int) < (m : Int) := by omega
  have HB3 := zA.mk hb
  have HG3 := zA.mk b1
  have HC3 := zA.mk b6
  have HW3 := zA.mk b2
  have HB4 : zA (Below w1.heap.size w1 (w3.setCell ⟨g3, i, none⟩ (.slice V vl e))) := ⟨hb.setCell b2 _⟩
  have HV4 : zA (FF (fun W => RAt W (some ⟨g3, 0, none⟩) c3 ((P ++ (q.1, (⟨V, vl, e⟩, val)) :: Q).map (·.2))) ok (w3.setCell ⟨g3, i, none⟩ (.slice V vl e))) := ⟨by
    refine rowH_FF (zCf b1 i (.slice V vl e)) (fun j y hy => ?_) (by rw [List.length_map, List.length_append, List.length_cons]; have h9 := HM.out; rw [List.length_append, List.length_cons] at h9; omega) (by rw [List.length_map, List.length_append, List.length_cons]; have h9 := HM.out; rw [List.length_append, List.length_cons] at h9; omega) (fun y hy => ?_) (HOK.out _ b2)
    · rw [Array.getElem?_setIfInBounds]
      rw [List.map_append, List.map_cons] at hy
      by_cases hij : i = j
      · subst hij
        rw [if_pos rfl, if_pos (by omega)]
        rw [List.getElem?_append_right (by rw [List.length_map, HIP.out]; exact Nat.le_refl _), List.length_map, HIP.out, Nat.sub_self] at hy
        injection hy with hy
        rw [← hy]
        rfl
      · rw [if_neg hij]
        refine b6 j y.1 ?_
        rw [List.getElem?_map, List.map_append, List.map_cons]
        have : (P.map (·.2) ++ q.2 :: Q.map (·.2))[j]? = some y := by
          rcases Nat.lt_or_ge j i with h9 | h9
          · rw [List.getElem?_append_left (by rw [List.length_map, HIP.out]; exact h9)] at hy ⊢
            exact hy
          · rw [List.getElem?_append_right (by rw [List.length_map, HIP.out]; exact h9), List.length_map, HIP.out] at hy ⊢
            obtain ⟨x, hx⟩ : ∃ x, j - i = x + 1 := ⟨j - i - 1, by omega⟩
            rw [hx] at hy ⊢
            exact hy
        rw [this]
        rfl
    · rw [List.map_append, List.map_cons] at hy
      rcases List.mem_append.1 hy with hy | hy
      · exact (H3.out.keep HB4.out).imp (fun W h => h.b y (by rw [List.map_append]; exact List.mem_append_left _ hy))
      · rcases List.mem_cons.1 hy with rfl | hy
        · exact HV.out.keep HB4.out
        · exact (H3.out.keep HB4.out).imp (fun W h => h.b y (by rw [List.map_append, List.map_cons]; exact List.mem_append_right _ (List.mem_cons_of_mem _ hy)))⟩
  have HNO : zA (∀ W, Below (w3.setCell ⟨g3, i, none⟩ (.slice V vl e)).heap.size (w3.setCell ⟨g3, i, none⟩ (.slice V vl e)) W → Calls Tryz.prog 158 #[.int .i64 n, .slice (some adk) m ck, .slice (some ⟨g3, 0, none⟩) m c3, .slice (some adc) (m + 1) cc] W fun e' w' => ∃ o, e' = .returned (ptrV o) ∧ PartAt ok w' o (partL (P ++ (q.1, (⟨V, vl, e⟩, val)) :: Q) (A ++ z :: C)) ∧ Below W.heap.size W w') := ⟨fun W hW => by
    have hW1 : Below w1.heap.size w1 W := bl_to HB4.out hW
    refine node_c (fun k hk => HOK.out k (Nat.le_trans hW1.size hk)) ?_ (HV4.out.keep hW) (fun y hy => (HZ.out y hy).keep hW1) HT.out.2 (HI.out.1.put HI.out.2 HP.out HT.out.1) (by have h9 := HM.out; simp only [List.length_append, List.length_cons] at h9 ⊢; omega) HZL.out _ _ (H4.out.keep hW1)
    have := H2.out.keep hW1
    rw [List.map_append, List.map_cons] at this ⊢
    exact this⟩
  clear hr hb b1 b2 b3 b4 b5 b6 hql HCV HV4
  go_upto_region 8 with fail
  generalize w3.setCell ⟨g3, i, none⟩ (.slice V vl e) = w4 at HB4 HNO ⊢
  go_region_held3 (fun w' => w'.cell? ⟨g, 0, none⟩ = some (.int .i64 n) ∧ w'.cell? ⟨g, 1, none⟩ = some (.slice (some adk) m ck) ∧ w'.cell? ⟨g, 3, none⟩ = some (.slice (some adc) (m + 1) cc))
    (first | exact keepM H1.out (by repeat (first | exact Below.refl _ _ | exact HBx.out | exact HB3.out | exact HB4.out | exact HB5.out | exact HB6.out | exact HB7.out | exact HB8.out | exact HB9.out | exact HBa.out | exact HBb.out | refine zAf ?_ | refine zAa ?_ _)) rfl rfl rfl)
    (first
      | (go_at_call 158; refine (HNO.out _ (by repeat (first | exact Below.refl _ _ | refine zAf ?_ | refine zAa ?_ _))).mono ?_; rintro e8 Wa ⟨oa, he, hpx, hb⟩; obtain ⟨pa, hpa⟩ := zDa oa; rw [hpa] at he; subst he; have HPa' := zA.mk hpa; have HPa := zA.mk hpx; have HBa := zA.mk (bl_to (X := w4.drew) (zAf HB4.out) hb); clear hpx hb hpa))
  go_wp2_with fail
  go_ret
  exact ⟨oa, _, by rw [HPa'.out]; rfl, HT.out.1, HPa.out, HBa.out⟩
end Go.Proofs.YtpckachmleonlaaGreatDoor
end
