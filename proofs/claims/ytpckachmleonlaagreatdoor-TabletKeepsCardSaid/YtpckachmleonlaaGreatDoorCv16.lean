/- Words and walks for Split and Tablet: texts of these sessions, and of the kit's print, cut down to what is used (Z A2 B2). -/
import Derived.Test.YtpckachmleonlaaGreatDoorCv15
section
set_option linter.unusedVariables false
set_option linter.unusedSimpArgs false
namespace Go.Proofs.YtpckachmleonlaaGreatDoor
open Go.RowKit Go.Proofs.YtpckachmleonlaaGreatDoorW.PrintWords
theorem inter_app (m y : List It) : ∀ (C : List (List It)) (Q : List It), inter ((m ++ y) :: C) Q = m ++ inter (y :: C) Q
  | _, [] => by simp [inter]
  | C, q :: Q => by simp [inter]
def PutL (l : List It) (key val : List Int) (l' : List It) : Prop := ∃ la mid lb, l = la ++ mid ++ lb ∧ zFd la key ∧ Above key lb ∧ (mid = [] ∨ ∃ v0, mid = [(key, v0)]) ∧ l' = la ++ (key, val) :: lb
section
variable {n : Nat} {P Q : List Jt} {q j : Jt} {A C : List Kid} {z : Kid} {key val : List Int} {la mid lb : List It} {a b o : Option Nat}
theorem two_lens (hl : LvOk n ((A ++ z :: C).map (·.2)) ((P ++ Q).map Jt.it)) (hA : A.length = P.length) : C.length = Q.length := by
  have := hl.len
  simp at this
  omega
theorem put_top (hj : j.it = (key, val)) (h : zBe key = n) (ha : ∀ x ∈ la, zBe x.1 < n) (hb : ∀ x ∈ lb, zBe x.1 < n) : partL [j] [(a, la), (b, lb)] = la ++ (key, val) :: lb ∧ LvOk n ([(a, la), (b, lb)].map (fun z : Kid => z.2)) ([j].map Jt.it) := by
  refine ⟨by simp [partL, inter, hj], by simp, fun i hi => ?_, fun s hs x hx => ?_⟩
  · simp only [List.map_cons, List.map_nil, List.mem_singleton] at hi
    subst hi
    rw [hj]
    exact h
  · simp only [List.map_cons, List.map_nil, List.mem_cons, List.not_mem_nil, or_false] at hs
    rcases hs with rfl | rfl
    · exact ha x hx
    · exact hb x hx
theorem put_is (hl : LvOk n ((A ++ z :: C).map (·.2)) ((P ++ q :: Q).map Jt.it)) (hA : A.length = P.length) (hs : Sorted (partL (P ++ q :: Q) (A ++ z :: C))) (hq : q.1.2 = key) (hj : j.it = (key, val)) (hP : zFd (P.map Jt.it) key) (hQ : Above key (Q.map Jt.it)) :
    PutL (partL (P ++ q :: Q) (A ++ z :: C)) key val (partL (P ++ j :: Q) (A ++ z :: C)) ∧ LvOk n ((A ++ z :: C).map (·.2)) ((P ++ j :: Q).map Jt.it) := by
  have hC := two_lens hl hA
  match C, hC with
  | y :: C, hC =>
    have e1 : partL (P ++ q :: Q) (A ++ z :: y :: C) = inter (A.map (·.2) ++ [z.2]) (P.map Jt.it) ++ q.it :: inter (y.2 :: C.map (·.2)) (Q.map Jt.it) := by
      simp only [partL, List.map_append, List.map_cons]
      exact inter_key (by simp [hA])
    have e2 : partL (P ++ j :: Q) (A ++ z :: y :: C) = inter (A.map (·.2) ++ [z.2]) (P.map Jt.it) ++ j.it :: inter (y.2 :: C.map (·.2)) (Q.map Jt.it) := by
      simp only [partL, List.map_append, List.map_cons]
      exact inter_key (by simp [hA])
    have hqi : q.it = (key, q.2.2) := by rw [← hq]; rfl
    have hs2 := hs
    rw [e1] at hs2
    obtain ⟨s1, s2, s3⟩ := Sorted.app hs2
    refine ⟨⟨inter (A.map (·.2) ++ [z.2]) (P.map Jt.it), [q.it], inter (y.2 :: C.map (·.2)) (Q.map Jt.it), by rw [e1]; simp, fun x hx => ?_, fun x hx => ?_, .inr ⟨q.2.2, by rw [hqi]⟩, by rw [e2, hj]⟩, ?_⟩
    · have := s3 x hx q.it (by simp)
      rw [hqi] at this
      exact this
    · have := (List.pairwise_cons.1 s2).1 x hx
      rw [hqi] at this
      exact this
    · refine ⟨by have := hl.len; simp at this ⊢; omega, fun i hi => ?_, hl.below⟩
      have hq2 := hl.keys q.it (by simp)
      rw [List.map_append, List.map_cons] at hi
      rcases List.mem_append.1 hi with hi | hi
      · exact hl.keys i (by rw [List.map_append]; exact List.mem_append_left _ hi)
      · rcases List.mem_cons.1 hi with rfl | hi
        · rw [hj]
          rw [hqi] at hq2
          exact hq2
        · exact hl.keys i (by rw [List.map_append, List.map_cons]; exact List.mem_append_right _ (List.mem_cons_of_mem _ hi))
theorem put_here (hl : LvOk n ((A ++ z :: C).map (·.2)) ((P ++ Q).map Jt.it)) (hA : A.length = P.length) (hs : Sorted (partL (P ++ Q) (A ++ z :: C))) (hj : j.it = (key, val)) (h : zBe key = n) (hP : zFd (P.map Jt.it) key) (hQ : Above key (Q.map Jt.it)) (hz : z.2 = la ++ lb) (hla : zFd la key) (hlb : Above key lb) :
    PutL (partL (P ++ Q) (A ++ z :: C)) key val (partL (P ++ j :: Q) (A ++ (a, la) :: (b, lb) :: C)) ∧ LvOk n ((A ++ (a, la) :: (b, lb) :: C).map (·.2)) ((P ++ j :: Q).map Jt.it) := by
  obtain ⟨hE, l1, l2, b1, b2⟩ := split_law (a := a) (b := b) hl hA hs hP hQ hz hla hlb
  have hC := two_lens hl hA
  refine ⟨⟨partL P (A ++ [(a, la)]), [], partL Q ((b, lb) :: C), by rw [hE, List.append_nil], b1, b2, .inl rfl, ?_⟩, ?_, fun i hi => ?_, fun s hs x hx => ?_⟩
  · have := inter_key (x := la) (y := lb) (k := (key, val)) (A := A.map (·.2)) (P := P.map Jt.it) (B := C.map (·.2)) (Q := Q.map Jt.it) (by simp [hA])
    simpa [partL, hj] using this
  · simp [hA, hC]; omega
  · rw [List.map_append, List.map_cons] at hi
    rcases List.mem_append.1 hi with hi | hi
    · exact hl.keys i (by rw [List.map_append]; exact List.mem_append_left _ hi)
    · rcases List.mem_cons.1 hi with rfl | hi
      · rw [hj]
        exact h
      · exact hl.keys i (by rw [List.map_append]; exact List.mem_append_right _ hi)
  · rw [List.map_append, List.map_cons, List.map_cons] at hs
    rcases List.mem_append.1 hs with hs | hs
    · exact hl.below s (by rw [List.map_append]; exact List.mem_append_left _ hs) x hx
    · rcases List.mem_cons.1 hs with rfl | hs
      · exact hl.below z.2 (by simp) x (by rw [hz]; exact List.mem_append_left _ hx)
      · rcases List.mem_cons.1 hs with rfl | hs
        · exact hl.below z.2 (by simp) x (by rw [hz]; exact List.mem_append_right _ hx)
        · exact hl.below s (by rw [List.map_append, List.map_cons]; exact List.mem_append_right _ (List.mem_cons_of_mem _ hs)) x hx
theorem put_down (hl : LvOk n ((A ++ z :: C).map (·.2)) ((P ++ Q).map Jt.it)) (hA : A.length = P.length) (hs : Sorted (partL (P ++ Q) (A ++ z :: C))) (h : zBe key < n) (hP : zFd (P.map Jt.it) key) (hQ : Above key (Q.map Jt.it)) {l' : List It} (hz : PutL z.2 key val l') :
    PutL (partL (P ++ Q) (A ++ z :: C)) key val (partL (P ++ Q) (A ++ (o, l') :: C)) ∧ LvOk n ((A ++ (o, l') :: C).map (·.2)) ((P ++ Q).map Jt.it) := by
  obtain ⟨la, mid, lb, e, hla, hlb, hmid, rfl⟩ := hz
  have hC := two_lens hl hA
  have e1 : partL (P ++ Q) (A ++ z :: C) = inter (A.map (·.2) ++ [la]) (P.map Jt.it) ++ (mid ++ inter (lb :: C.map (·.2)) (Q.map Jt.it)) := by
    rw [← inter_app]
    simp only [partL, List.map_append, List.map_cons, e, List.append_assoc]
    exact zFc (by simp [hA])
  have e2 : partL (P ++ Q) (A ++ (o, la ++ (key, val) :: lb) :: C) = inter (A.map (·.2) ++ [la]) (P.map Jt.it) ++ (key, val) :: inter (lb :: C.map (·.2)) (Q.map Jt.it) := by
    have := inter_app [(key, val)] lb (C.map (·.2)) (Q.map Jt.it)
    simp only [List.singleton_append] at this
    rw [← this]
    simp only [partL, List.map_append, List.map_cons]
    exact zFc (by simp [hA])
  have hs2 := hs
  rw [e1] at hs2
  obtain ⟨s1, s2, s3⟩ := Sorted.app hs2
  obtain ⟨_, s4, _⟩ := Sorted.app s2
  refine ⟨⟨_, mid, _, by rw [e1, List.append_assoc], inter_below (by simp [hA]) s1 hP hla, inter_above (by simp [hC]) s4 hQ hlb, hmid, e2⟩, ?_, hl.keys, fun s hs x hx => ?_⟩
  · have := hl.len
    simp at this ⊢
    omega
  · rw [List.map_append, List.map_cons] at hs
    rcases List.mem_append.1 hs with hs | hs
    · exact hl.below s (by rw [List.map_append]; exact List.mem_append_left _ hs) x hx
    · rcases List.mem_cons.1 hs with rfl | hs
      · rcases List.mem_append.1 hx with hx | hx
        · exact hl.below z.2 (by simp) x (by rw [e]; simp [hx])
        · rcases List.mem_cons.1 hx with rfl | hx
          · exact h
          · exact hl.below z.2 (by simp) x (by rw [e]; simp [hx])
      · exact hl.below s (by rw [List.map_append, List.map_cons]; exact List.mem_append_right _ (List.mem_cons_of_mem _ hs)) x hx
theorem del_is {y : Kid} (hl : LvOk n ((A ++ z :: y :: C).map (·.2)) ((P ++ q :: Q).map Jt.it)) (hA : A.length = P.length) :
    partL (P ++ q :: Q) (A ++ z :: y :: C) = (inter (A.map (·.2) ++ [z.2]) (P.map Jt.it)) ++ q.it :: (inter (y.2 :: C.map (·.2)) (Q.map Jt.it)) ∧ partL (P ++ Q) (A ++ (o, z.2 ++ y.2) :: C) = (inter (A.map (·.2) ++ [z.2]) (P.map Jt.it)) ++ (inter (y.2 :: C.map (·.2)) (Q.map Jt.it)) ∧ LvOk n ((A ++ (o, z.2 ++ y.2) :: C).map (·.2)) ((P ++ Q).map Jt.it) := by
  refine ⟨?_, ?_, ?_, fun i hi => ?_, fun s hs x hx => ?_⟩
  · simp only [partL, List.map_append, List.map_cons]
    exact inter_key (by simp [hA])
  · simp only [partL, List.map_append, List.map_cons]
    exact zFc (by simp [hA])
  · have := hl.len
    simp at this ⊢
    omega
  · rw [List.map_append] at hi
    rcases List.mem_append.1 hi with hi | hi
    · exact hl.keys i (by rw [List.map_append]; exact List.mem_append_left _ hi)
    · exact hl.keys i (by rw [List.map_append, List.map_cons]; exact List.mem_append_right _ (List.mem_cons_of_mem _ hi))
  · rw [List.map_append, List.map_cons] at hs
    rcases List.mem_append.1 hs with hs | hs
    · exact hl.below s (by rw [List.map_append]; exact List.mem_append_left _ hs) x hx
    · rcases List.mem_cons.1 hs with rfl | hs
      · rcases List.mem_append.1 hx with hx | hx
        · exact hl.below z.2 (by simp) x hx
        · exact hl.below y.2 (by simp) x hx
      · exact hl.below s (by rw [List.map_append, List.map_cons, List.map_cons]; exact List.mem_append_right _ (List.mem_cons_of_mem _ (List.mem_cons_of_mem _ hs))) x hx
theorem del_down {l1 l2 : List It} {x : It} (hl : LvOk n ((A ++ z :: C).map (·.2)) ((P ++ Q).map Jt.it)) (hA : A.length = P.length) (hz : z.2 = l1 ++ x :: l2) :
    partL (P ++ Q) (A ++ z :: C) = (inter (A.map (·.2) ++ [l1]) (P.map Jt.it)) ++ x :: (inter (l2 :: C.map (·.2)) (Q.map Jt.it)) ∧ partL (P ++ Q) (A ++ (o, l1 ++ l2) :: C) = (inter (A.map (·.2) ++ [l1]) (P.map Jt.it)) ++ (inter (l2 :: C.map (·.2)) (Q.map Jt.it)) ∧ LvOk n ((A ++ (o, l1 ++ l2) :: C).map (·.2)) ((P ++ Q).map Jt.it) := by
  refine ⟨?_, ?_, ?_, hl.keys, fun s hs y hy => ?_⟩
  · have := inter_app [x] l2 (C.map (·.2)) (Q.map Jt.it)
    simp only [List.singleton_append] at this
    rw [← this]
    simp only [partL, List.map_append, List.map_cons, hz]
    exact zFc (by simp [hA])
  · simp only [partL, List.map_append, List.map_cons]
    exact zFc (by simp [hA])
  · have := hl.len
    simp at this ⊢
    omega
  · rw [List.map_append, List.map_cons] at hs
    rcases List.mem_append.1 hs with hs | hs
    · exact hl.below s (by rw [List.map_append]; exact List.mem_append_left _ hs) y hy
    · rcases List.mem_cons.1 hs with rfl | hs
      · rcases List.mem_append.1 hy with hy | hy
        · exact hl.below z.2 (by simp) y (by rw [hz]; simp [hy])
        · exact hl.below z.2 (by simp) y (by rw [hz]; simp [hy])
      · exact hl.below s (by rw [List.map_append, List.map_cons]; exact List.mem_append_right _ (List.mem_cons_of_mem _ hs)) y hy
end
end Go.Proofs.YtpckachmleonlaaGreatDoor
end
section
set_option linter.unusedVariables false
set_option linter.unusedSimpArgs false
namespace Go.Proofs.YtpckachmleonlaaGreatDoor
open Go.RowKit Go.Proofs.YtpckachmleonlaaGreatDoorW.PrintWords
def PutPost (ok : Nat → Prop) (l : List It) (key val : List Int) (w : World) (e : Ending) (w' : World) : Prop := ∃ o l', e = .returned (ptrV o) ∧ PutL l key val l' ∧ PartAt ok w' o l' ∧ Below w.heap.size w w'
structure PutI (key val : List Int) : Prop where
  k : key.length ≤ 256
  v : val.length ≤ 1100
  b : IsB key
theorem ItOk.put {l l' : List It} {key val : List Int} (h : ItOk l) (hn : l.length < 100) (hp : PutI key val) (hl : PutL l key val l') : ItOk l' := by
  obtain ⟨la, mid, lb, rfl, _, _, hm, rfl⟩ := hl
  refine ⟨?_, fun x hx => ?_⟩
  · simp only [List.length_append, List.length_cons] at hn ⊢
    omega
  · rcases List.mem_append.1 hx with hx | hx
    · exact h.k x (by simp [hx])
    · rcases List.mem_cons.1 hx with rfl | hx
      · exact ⟨hp.k, hp.v, hp.b⟩
      · exact h.k x (by simp [hx])
theorem row1_FF {ok : Nat → Prop} {w : World} {g t : Nat} {h : Hd} {l : List Int} (hb : w.heap[g]? = some (.cells #[h.v] t (0, 0))) (hf : FF (fun W => BAt W h l) ok w) (hg : ok g) : FF (fun W => RAt W (some ⟨g, 0, none⟩) 1 [(h, l)]) ok w := fun W hW => by
  have hb2 : W.heap[g]? = some (.cells #[h.v] t (0, 0)) := (hW g hg (zAj hb)).trans hb
  refine ⟨⟨rfl, by simp, fun _ => ⟨_, rfl, fun j p hj => ?_⟩⟩, Nat.le_refl _, fun y hy => ?_⟩
  · have hj0 : j = 0 := by
      have := (List.getElem?_eq_some_iff.1 hj).1
      simp at this
      omega
    subst hj0
    injection hj with hj
    subst hj
    refine ⟨[h.v], rfl, rfl, fun i u hu => ?_⟩
    rw [Addr.add_mid, cell_of_row W g _ _ t (0, 0) hb2]
    have hi0 : i = 0 := by
      have := (List.getElem?_eq_some_iff.1 hu).1
      simp at this
      omega
    subst hi0
    simpa using hu
  · rw [List.mem_singleton.1 hy]
    exact hf W hW
theorem pts2_FF {ok : Nat → Prop} {w : World} {g t : Nat} {a b : Option Nat} {va vb : Value} (hb : w.heap[g]? = some (.cells #[va, vb] t (0, 0))) (ea : ptrV a = va) (eb : ptrV b = vb) (hg : ok g) : FF (fun W => PAt W (some ⟨g, 0, none⟩) 2 [a, b]) ok w := fun W hW => by
  subst ea
  subst eb
  have hb2 : W.heap[g]? = some (.cells #[ptrV a, ptrV b] t (0, 0)) := (hW g hg (zAj hb)).trans hb
  refine ⟨⟨rfl, by simp, fun _ => ⟨_, rfl, fun j p hj => ?_⟩⟩, Nat.le_refl _⟩
  have hj2 : j < 2 := (List.getElem?_eq_some_iff.1 hj).1
  rcases (by omega : j = 0 ∨ j = 1) with rfl | rfl
  all_goals
    injection hj with hj
    subst hj
    refine ⟨[ptrV _], rfl, rfl, fun i u hu => ?_⟩
    rw [Addr.add_mid, cell_of_row W g _ _ t (0, 0) hb2]
    have hi0 : i = 0 := by
      have := (List.getElem?_eq_some_iff.1 hu).1
      simp at this
      omega
    subst hi0
    simpa [show Kd.sz kP = 1 from rfl] using hu
theorem hM1 (W : World) {C1 : Array Value} {t1 : Nat} (o2 o3 : Obj) : (((W.alloc (.cells C1 t1)).alloc o2).alloc o3).heap[W.heap.size]? = some (.cells C1 t1 (0, 0)) := zAi (zAi (heap_alloc_new W _) _) _
theorem hM2 (W : World) {C2 : Array Value} {t2 : Nat} (o1 o3 : Obj) : (((W.alloc o1).alloc (.cells C2 t2)).alloc o3).heap[W.heap.size + 1]? = some (.cells C2 t2 (0, 0)) := zAi (hN3 W o1 _) _
theorem hM3 (W : World) (o1 o2 o3 : Obj) : (((W.alloc o1).alloc o2).alloc o3).heap[W.heap.size + 2]? = some o3 := by
  have h := heap_alloc_new ((W.alloc o1).alloc o2) o3
  rwa [World.size_alloc, World.size_alloc] at h
set_option maxHeartbeats 4000000 in
set_option maxRecDepth 100000 in
theorem put_lo0 (ok : Nat → Prop) (B V : Option Addr) (d e : Nat) (key val : List Int) (hp : PutI key val) (l : List It) (w : World) (hok : ∀ k, w.heap.size ≤ k → ok k) (hpt : PartAt ok w none l) (hi : ItOk l) (hn : l.length < 100) (hs : Sorted l)
    (hk : FF (fun W => BAt W ⟨B, key.length, d⟩ key) ok w) (hv : FF (fun W => BAt W ⟨V, val.length, e⟩ val) ok w) (hlv : ∀ x ∈ l, zBe x.1 < zBe key) :
    Calls Tryz.prog 141 #[ptrV none, .int .i64 (zBe key), .slice B key.length d, .slice V val.length e] w (PutPost ok l key val w) := by
  have HSP := zAa.mk (split_any ok B d key hp.b (l.length + 1) none l w (Nat.lt_succ_self _) hok hpt hi hs hk.now.row (fun x hx e => by have := hlv x hx; rw [e] at this; exact absurd this (Nat.lt_irrefl _)))
  have HP := zAa.mk hp
  have HOK := zAa.mk hok
  have HI := zAa.mk (And.intro hi hn)
  have HK := zAa.mk hk
  have HV := zAa.mk hv
  have HLV := zAa.mk hlv
  clear hp hok hpt hi hn hs hk hv hlv
  have hl64 := levelM_le key
  obtain ⟨lv, hlve⟩ : ∃ lv, zBe key = lv := ⟨_, rfl⟩
  have HLE := zAa.mk hlve
  rw [hlve] at HLV hl64
  rw [hlve]
  clear hlve
  change Calls Tryz.prog 141 #[.pointer none, .int .i64 lv, .slice B key.length d, .slice V val.length e] w _
  change zAa (Calls Tryz.prog 157 #[.pointer none, .slice B key.length d] w _) at HSP
  obtain ⟨kl, hkl⟩ : ∃ kl, key.length = kl := ⟨_, rfl⟩
  obtain ⟨vl, hvl⟩ : ∃ vl, val.length = vl := ⟨_, rfl⟩
  rw [hkl] at HSP HK ⊢
  rw [hvl] at HV ⊢
  clear hkl hvl
  go_enter Tryz.func141, Tryz.ntmps141
  go_wp2_with fail
  refine HSP.out.mono ?_
  rintro e2 w2 ⟨a, b, la, lb, he, hab, hla, hlb, hpa, hpb, hb2⟩
  obtain ⟨pa, hPa⟩ := zBc a
  obtain ⟨pb, hPb⟩ := zBc b
  rw [hPa, hPb] at he
  subst he
  have HPa := zAa.mk hPa
  have HPb := zAa.mk hPb
  have HAB := zAa.mk hab
  have HLAB := zAa.mk (And.intro hla hlb)
  have HPA := zAa.mk hpa
  have HPB := zAa.mk hpb
  have HB2 := zAa.mk hb2
  clear hab hla hlb hpa hpb hb2 hPa hPb HSP
  go_wp2_with fail
  have HW : zAa (∀ o1 o2 o3 : Obj, Below w.heap.size w (((w2.alloc o1).alloc o2).alloc o3)) := ⟨fun o1 o2 o3 => zAb (zAb (zAb HB2.out _) _) _⟩
  have hT := put_top (n := lv) (j := ((⟨B, kl, d⟩, key), (⟨V, vl, e⟩, val))) (a := a) (b := b) (la := la) (lb := lb) (key := key) (val := val) rfl HLE.out (fun x hx => HLV.out x (by rw [HAB.out]; exact List.mem_append_left _ hx)) (fun x hx => HLV.out x (by rw [HAB.out]; exact List.mem_append_right _ hx))
  have hPL : PutL l key val (la ++ (key, val) :: lb) := ⟨la, [], lb, by rw [HAB.out, List.append_nil], HLAB.out.1, HLAB.out.2, .inl rfl, rfl⟩
  have HT := zAa.mk hT
  have HPL := zAa.mk hPL
  clear hT hPL
  have hcall := node_any ok lv (some ⟨w2.heap.size, 0, none⟩) (some ⟨w2.heap.size + 1, 0, none⟩) (some ⟨w2.heap.size + 2, 0, none⟩) 1 1 2 [((⟨B, kl, d⟩, key), (⟨V, vl, e⟩, val))] [(a, la), (b, lb)] (((w2.alloc (.cells #[.slice B kl d] 47)).alloc (.cells #[.slice V vl e] 47)).alloc (.cells #[.pointer pa, .pointer pb] 110))
    (fun k hk => HOK.out k (Nat.le_trans (HW.out _ _ _).size hk)) (row1_FF (h := ⟨B, kl, d⟩) (hM1 w2 _ _) (HK.out.keep (HW.out _ _ _)) (HOK.out _ HB2.out.size)) (row1_FF (h := ⟨V, vl, e⟩) (hM2 w2 _ _) (HV.out.keep (HW.out _ _ _)) (HOK.out _ (by have := HB2.out.size; omega))) (pts2_FF (hM3 w2 _ _ _) HPa.out HPb.out (HOK.out _ (by have := HB2.out.size; omega)))
    (fun y hy => by
      simp only [List.mem_cons, List.not_mem_nil, or_false] at hy
      rcases hy with rfl | rfl
      · exact HPA.out.keep (zAb (zAb (zAb (Below.refl _ _) _) _) _)
      · exact HPB.out.keep (zAb (zAb (zAb (Below.refl _ _) _) _) _)) HT.out.2 (by rw [HT.out.1]; exact HI.out.1.put HI.out.2 HP.out HPL.out)
  refine hcall.mono ?_
  rintro e3 w3 ⟨o3, he, hp3, hb3⟩
  obtain ⟨p3, hp3'⟩ := zBc o3
  rw [hp3'] at he
  subst he
  rw [HT.out.1] at hp3
  have HP3 := zAa.mk hp3
  have HP3' := zAa.mk hp3'
  have HB3 : zAa (Below w.heap.size w w3) := ⟨bl_to (HW.out _ _ _) hb3⟩
  clear hcall hp3 hp3' hb3
  go_wp2_with fail
  go_ret
  exact ⟨o3, _, by rw [HP3'.out]; rfl, HPL.out, HP3.out, HB3.out⟩
set_option maxHeartbeats 4000000 in
set_option maxRecDepth 100000 in
theorem put_lo1 (ok : Nat → Prop) (B V : Option Addr) (d e : Nat) (key val : List Int) (hp : PutI key val) (g n : Nat) (cs : Array Value) (l : List It) (w : World) (hok : ∀ k, w.heap.size ≤ k → ok k) (hpt : PartAt ok w (some g) l) (hi : ItOk l) (hn : l.length < 100) (hs : Sorted l)
    (hk : FF (fun W => BAt W ⟨B, key.length, d⟩ key) ok w) (hv : FF (fun W => BAt W ⟨V, val.length, e⟩ val) ok w) (hlv : ∀ x ∈ l, zBe x.1 < zBe key) (hblk : w.heap[g]? = some (.cells cs 150 (0, 0))) (hcs : cs[0]? = some (.int .i64 n)) (hnl : n < zBe key) :
    Calls Tryz.prog 141 #[ptrV (some g), .int .i64 (zBe key), .slice B key.length d, .slice V val.length e] w (PutPost ok l key val w) := by
  have HSP := zAa.mk (split_any ok B d key hp.b (l.length + 1) (some g) l w (Nat.lt_succ_self _) hok hpt hi hs hk.now.row (fun x hx e => by have := hlv x hx; rw [e] at this; exact absurd this (Nat.lt_irrefl _)))
  have HP := zAa.mk hp
  have HOK := zAa.mk hok
  have HI := zAa.mk (And.intro hi hn)
  have HK := zAa.mk hk
  have HV := zAa.mk hv
  have HLV := zAa.mk hlv
  have hc : w.cell? ⟨g, 0, none⟩ = some (.int .i64 n) := (zAc hblk 0).trans hcs
  have hgl := zAj hblk
  have ht1 : decide ((n : Int) < (zBe key : Int)) = true := dt (by omega)
  have ht2 : (n : Int) < (zBe key : Int) := by omega
  clear hblk hnl
  clear hp hok hpt hi hn hs hk hv hlv
  have hl64 := levelM_le key
  obtain ⟨lv, hlve⟩ : ∃ lv, zBe key = lv := ⟨_, rfl⟩
  have HLE := zAa.mk hlve
  rw [hlve] at HLV hl64 ht1 ht2
  rw [hlve]
  clear hlve
  change Calls Tryz.prog 141 #[.pointer (some ⟨g, 0, none⟩), .int .i64 lv, .slice B key.length d, .slice V val.length e] w _
  change zAa (Calls Tryz.prog 157 #[.pointer (some ⟨g, 0, none⟩), .slice B key.length d] w _) at HSP
  obtain ⟨kl, hkl⟩ : ∃ kl, key.length = kl := ⟨_, rfl⟩
  obtain ⟨vl, hvl⟩ : ∃ vl, val.length = vl := ⟨_, rfl⟩
  rw [hkl] at HSP HK ⊢
  rw [hvl] at HV ⊢
  clear hkl hvl
  go_enter Tryz.func141, Tryz.ntmps141
  go_wp2_with fail
  refine HSP.out.mono ?_
  rintro e2 w2 ⟨a, b, la, lb, he, hab, hla, hlb, hpa, hpb, hb2⟩
  obtain ⟨pa, hPa⟩ := zBc a
  obtain ⟨pb, hPb⟩ := zBc b
  rw [hPa, hPb] at he
  subst he
  have HPa := zAa.mk hPa
  have HPb := zAa.mk hPb
  have HAB := zAa.mk hab
  have HLAB := zAa.mk (And.intro hla hlb)
  have HPA := zAa.mk hpa
  have HPB := zAa.mk hpb
  have HB2 := zAa.mk hb2
  clear hab hla hlb hpa hpb hb2 hPa hPb HSP
  go_wp2_with fail
  have HW : zAa (∀ o1 o2 o3 : Obj, Below w.heap.size w (((w2.alloc o1).alloc o2).alloc o3)) := ⟨fun o1 o2 o3 => zAb (zAb (zAb HB2.out _) _) _⟩
  have hT := put_top (n := lv) (j := ((⟨B, kl, d⟩, key), (⟨V, vl, e⟩, val))) (a := a) (b := b) (la := la) (lb := lb) (key := key) (val := val) rfl HLE.out (fun x hx => HLV.out x (by rw [HAB.out]; exact List.mem_append_left _ hx)) (fun x hx => HLV.out x (by rw [HAB.out]; exact List.mem_append_right _ hx))
  have hPL : PutL l key val (la ++ (key, val) :: lb) := ⟨la, [], lb, by rw [HAB.out, List.append_nil], HLAB.out.1, HLAB.out.2, .inl rfl, rfl⟩
  have HT := zAa.mk hT
  have HPL := zAa.mk hPL
  clear hT hPL
  have hcall := node_any ok lv (some ⟨w2.heap.size, 0, none⟩) (some ⟨w2.heap.size + 1, 0, none⟩) (some ⟨w2.heap.size + 2, 0, none⟩) 1 1 2 [((⟨B, kl, d⟩, key), (⟨V, vl, e⟩, val))] [(a, la), (b, lb)] (((w2.alloc (.cells #[.slice B kl d] 47)).alloc (.cells #[.slice V vl e] 47)).alloc (.cells #[.pointer pa, .pointer pb] 110))
    (fun k hk => HOK.out k (Nat.le_trans (HW.out _ _ _).size hk)) (row1_FF (h := ⟨B, kl, d⟩) (hM1 w2 _ _) (HK.out.keep (HW.out _ _ _)) (HOK.out _ HB2.out.size)) (row1_FF (h := ⟨V, vl, e⟩) (hM2 w2 _ _) (HV.out.keep (HW.out _ _ _)) (HOK.out _ (by have := HB2.out.size; omega))) (pts2_FF (hM3 w2 _ _ _) HPa.out HPb.out (HOK.out _ (by have := HB2.out.size; omega)))
    (fun y hy => by
      simp only [List.mem_cons, List.not_mem_nil, or_false] at hy
      rcases hy with rfl | rfl
      · exact HPA.out.keep (zAb (zAb (zAb (Below.refl _ _) _) _) _)
      · exact HPB.out.keep (zAb (zAb (zAb (Below.refl _ _) _) _) _)) HT.out.2 (by rw [HT.out.1]; exact HI.out.1.put HI.out.2 HP.out HPL.out)
  refine hcall.mono ?_
  rintro e3 w3 ⟨o3, he, hp3, hb3⟩
  obtain ⟨p3, hp3'⟩ := zBc o3
  rw [hp3'] at he
  subst he
  rw [HT.out.1] at hp3
  have HP3 := zAa.mk hp3
  have HP3' := zAa.mk hp3'
  have HB3 : zAa (Below w.heap.size w w3) := ⟨bl_to (HW.out _ _ _) hb3⟩
  clear hcall hp3 hp3' hb3
  go_wp2_with fail
  go_ret
  exact ⟨o3, _, by rw [HP3'.out]; rfl, HPL.out, HP3.out, HB3.out⟩
end Go.Proofs.YtpckachmleonlaaGreatDoor
end
section
set_option linter.unusedVariables false
set_option linter.unusedSimpArgs false
namespace Go.Proofs.YtpckachmleonlaaGreatDoor
open Go.RowKit Go.Proofs.YtpckachmleonlaaGreatDoorW.PrintWords
theorem BsAt.uniq {ks : List (List Int)} {key : List Int} {i j : Nat} (h : BsAt ks key i i) (k : BsAt ks key j j) : i = j := by
  rcases Nat.lt_trichotomy i j with h1 | h1 | h1
  · have h2 := k.lo i h1
    have h3 := h.hi i (Nat.le_refl _) (by have := k.jn; omega)
    omega
  · exact h1
  · have h2 := h.lo j h1
    have h3 := k.hi j (Nat.le_refl _) (by have := h.jn; omega)
    omega
theorem BsAt.ex (key : List Int) : ∀ {ks : List (List Int)}, KSorted ks → ∃ i, BsAt ks key i i
  | [], _ => ⟨0, Nat.le_refl _, Nat.le_refl _, fun m h => absurd h (Nat.not_lt_zero _), fun m _ h => absurd h (Nat.not_lt_zero _)⟩
  | k :: ks, hs => by
    by_cases hk : cmpI k key < 0
    · obtain ⟨i, h⟩ := BsAt.ex key (ks := ks) (List.pairwise_cons.1 hs).2
      refine ⟨i + 1, Nat.le_refl _, by have := h.jn; simp; omega, fun m hm => ?_, fun m hm hl => ?_⟩
      · match m with
        | 0 => exact hk
        | m + 1 => exact h.lo m (by omega)
      · match m with
        | 0 => omega
        | m + 1 => exact h.hi m (by omega) (by simpa using hl)
    · refine ⟨0, Nat.le_refl _, Nat.zero_le _, fun m h => absurd h (Nat.not_lt_zero _), fun m _ hl => ?_⟩
      match m with
      | 0 => show 0 ≤ cmpI k key; omega
      | m + 1 => exact cmpI_ge (rd_lt hs (Nat.succ_pos m) hl) (show 0 ≤ cmpI k key by omega)
theorem find_at (ok : Nat → Prop) (g n : Nat) (js : List Jt) (ks : List (Option Nat)) (h : List Int) (m : Nat) (B : Option Addr) (d : Nat) (key : List Int) (w : World) (hN : zEa ok w g n js ks h m) (hs : Sorted (js.map Jt.it)) (hl : js.length ≤ 1000) (hk : kB.C w B key.length key) (hb : ∀ j ∈ js, IsB j.1.2) (hkb : IsB key) :
    ∃ i b, Found js key i b ∧ Calls Tryz.prog 159 #[.pointer (some ⟨g, 0, none⟩), .slice B key.length d] w fun e w' => e = .returned (.tuple #[.int .i64 i, .bool b]) ∧ w' = w := by
  obtain ⟨i, hi⟩ := BsAt.ex key (sorted_keys hs)
  refine ⟨i, _, found_of hi (sorted_keys hs) hb hkb, (find_any ok g n js ks h m B d key w hN (sorted_keys hs) hl hk).mono ?_⟩
  rintro e w' ⟨rfl, j, hj, rfl⟩
  obtain rfl := hi.uniq hj
  exact ⟨rfl, rfl⟩
theorem rowH_FF {ok : Nat → Prop} {w : World} {g t c : Nat} {C : Array Value} {ys : List (Hd × List Int)} (hb : w.heap[g]? = some (.cells C t (0, 0))) (hC : ∀ (j : Nat) (y : Hd × List Int), ys[j]? = some y → C[j]? = some y.1.v) (hc : ys.length ≤ c) (hn : ys.length ≤ 1000) (hy : ∀ y ∈ ys, FF (fun W => BAt W y.1 y.2) ok w) (hg : ok g) : FF (fun W => RAt W (some ⟨g, 0, none⟩) c ys) ok w := fun W hW => by
  have hb2 : W.heap[g]? = some (.cells C t (0, 0)) := (hW g hg (zAj hb)).trans hb
  refine ⟨⟨List.length_map _, by omega, fun _ => ⟨_, rfl, fun j p hj => ?_⟩⟩, hc, fun y hy2 => hy y hy2 W hW⟩
  rw [List.getElem?_map] at hj
  obtain ⟨y, hy1, rfl⟩ := Option.map_eq_some_iff.1 hj
  refine ⟨[y.1.v], rfl, rfl, fun i u hu => ?_⟩
  have hi0 : i = 0 := by
    have := (List.getElem?_eq_some_iff.1 hu).1
    simp at this
    omega
  subst hi0
  rw [Addr.add_mid, cell_of_row W g _ _ t (0, 0) hb2, show 0 + (j * Kd.sz kS + 0) = j by rw [show Kd.sz kS = 1 from rfl]; omega, hC j y hy1]
  simpa using hu
theorem rowP_FF {ok : Nat → Prop} {w : World} {g t c : Nat} {C : Array Value} {ks : List (Option Nat)} (hb : w.heap[g]? = some (.cells C t (0, 0))) (hC : ∀ (j : Nat) (y : Option Nat), ks[j]? = some y → C[j]? = some (ptrV y)) (hc : ks.length ≤ c) (hn : ks.length ≤ 1000) (hg : ok g) : FF (fun W => PAt W (some ⟨g, 0, none⟩) c ks) ok w := fun W hW => by
  have hb2 : W.heap[g]? = some (.cells C t (0, 0)) := (hW g hg (zAj hb)).trans hb
  refine ⟨⟨rfl, by omega, fun _ => ⟨_, rfl, fun j p hj => ?_⟩⟩, hc⟩
  refine ⟨[ptrV p], rfl, rfl, fun i u hu => ?_⟩
  have hi0 : i = 0 := by
    have := (List.getElem?_eq_some_iff.1 hu).1
    simp at this
    omega
  subst hi0
  rw [Addr.add_mid, cell_of_row W g _ _ t (0, 0) hb2, show 0 + (j * Kd.sz kP + 0) = j by rw [show Kd.sz kP = 1 from rfl]; omega, hC j p hj]
  simpa using hu
theorem own_block {α : Type} {enc : α → Value} {h1 : ∀ x, (enc x).oneCell' = true} {e base : Nat} {w : World} {ok : Nat → Prop} {A : Option Addr} {n c : Nat} {xs : List α} (h : (Kd.scalar enc h1).R e w base ok (.slice A n c) xs) (hn : 0 < n) : ∃ (g : Nat) (C : Array Value), A = some ⟨g, 0, none⟩ ∧ w.heap[g]? = some (.cells C e (0, 0)) ∧ base ≤ g ∧ xs.length = n ∧ n ≤ c ∧ n ≤ C.size ∧ ∀ (j : Nat) (x : α), xs[j]? = some x → C[j]? = some (enc x) := by
  have hl := (Kd.zEe h).1
  have ho := Kd.own_of_R h
  rcases ho.2 with ⟨h0, _⟩ | ⟨g, cap, cur, hve, h1, h2, h3, h4, h5, h6⟩
  · injection h0 with _ h0 _
    omega
  · injection hve with ha _ hc
    subst ha hc
    refine ⟨g, cur, rfl, h2, h1, hl.symm, by rw [hl]; exact h3, by rw [hl]; omega, fun j x hx => ?_⟩
    have hj := (List.getElem?_eq_some_iff.1 hx).1
    have h7 : (cur.toList.take (xs.length * 1))[j]? = cur.toList[j]? := by rw [List.getElem?_take, if_pos (by omega)]
    rw [← Array.getElem?_toList, ← h7, h6]
    simp [encs, hx]
end Go.Proofs.YtpckachmleonlaaGreatDoor
end
