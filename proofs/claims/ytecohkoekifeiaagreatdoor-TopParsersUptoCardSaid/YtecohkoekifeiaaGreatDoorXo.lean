/-
  TopParsers, walked once: it gives back true where the two tables are there.
-/
import Derived.Test.YtecohkoekifeiaaGreatDoorXn
import Derived.Test.YtecohkoekifeiaaGreatDoorXm
import Derived.Test.YtecohkoekifeiaaGreatDoorKn
set_option linter.all false
namespace Go.Proofs.YtecohkoekifeiaaGreatDoor
open Go.ChangeShapes Go.WideShapes Go.ChangeAt Go.RowKit
set_option linter.unusedVariables false
set_option linter.unusedSimpArgs false

section
variable {P : Program} {ops : Array Oper} {Q : Exit → Act → World → Prop} {md : Region.Mode} {S : World → Prop}
theorem tkU (i : Nat) {oi : Oper} {fuel : Nat} {listed : Array Bool} {a : Act} {w : World} (hi : ops[i]? = some oi) (hS : S w)
    (h : wpAnyH P md ops Q S fuel (listed.setIfInBounds i true) (a.put oi.dst undef) w)
    (hs : Region.noSelect ops = true := by kernel_rfl) (hf : Region.free md ops listed i = true := by kernel_rfl) (hr : (Region.ready md ops listed).contains i = true := by kernel_rfl)
    (hQ : ∀ c a w, Q (.panic c) (a.put oi.dst undef) w → Q (.panic c) a w := by exact fun _ _ _ h => h) (hw : Region.wanted oi (yielded ops a.tmps) = false := by rfl) : wpAnyH P md ops Q S (fuel + 1) listed a w :=
  wpAnyH_take hi hs hf hr hQ (.inr ⟨hw, rfl⟩) hS h
end

set_option maxRecDepth 100000 in
set_option maxHeartbeats 8000000 in
theorem top_yes {W : World} {a : Option Addr} {b : List Int} (h : Row W a (bytes b)) (hB : Byte b) (hm : b.length ≤ 16777216) (c : Nat) (hcap : b.length ≤ c) {m : Int} {t : TypeId} {f : Nat × Nat}
    (h0 : W.heap[0]? = some (.cells #[.int .i64 m] t f)) (h1 : W.heap[1]? = some (.cells Go.Ev.powRow 270)) (hz : 13 ≤ W.heap.size) :
    Calls Tryz.prog 3 #[.slice a b.length c] W fun e w' => e = .returned (.bool true) ∧ Below W.heap.size W w' := by
  have HE := Lib.hid (fun (u : World) (hu : Kp (fun _ => False) W u) => get_E (h.no hu) hB hm c)
  have HS := Lib.hid (fun (u : World) (hu : Kp (fun _ => False) W u) => get_S (h.no hu) hB hm c)
  have HM := Lib.hid (fun (u : World) (hu : Kp (fun _ => False) W u) => get_M (h.no hu) hB hm c)
  have HV := Lib.hid (fun (u : World) (hu : Kp (fun _ => False) W u) => get_V (h.no hu) hB hm c hcap)
  have HN := Lib.hid (fun (u : World) (hu : Kp (fun _ => False) W u) => get_N (h.no hu) hB hm c hcap)
  have HR := Lib.hid (fun (u : World) (hu : Kp (fun _ => False) W u) => restore_any (h.no hu) hB hm c)
  have HW := Lib.hid (fun (u : World) (hu : Kp (fun _ => False) W u) => h.no hu)
  have HKN := Lib.hid (fun (u : World) (hu : Kp (fun _ => False) W u) => Go.Ev.knows_calls (hu.heap h0 (fun h => h)) (hu.heap h1 (fun h => h)) (Nat.le_trans hz hu.size))
  clear h hB hm hcap h0 h1 hz
  have HK := Lib.hid (Kp.refl (fun _ => False) W)
  go_enter Tryz.func3, Tryz.ntmps3
  go_wp2_with (go_at_call 4; refine Stop.mk ?_)
  unfold Stop
  refine (HE.out _ HK.out).mono ?_
  rintro e v1 ⟨hk, i0, i1, i2, o1, on1, oc1, er1, rfl, hp⟩
  have HK' := Lib.hid (HK.out.trans hk)
  have HP := Lib.hid hp
  clear hk hp HK HE
  go_wp2_with (go_at_call 5; refine Stop.mk ?_)
  unfold Stop
  refine (HP.out _ ?_).mono ?_
  · repeat (first | with_reducible exact Kp.refl _ _ | with_reducible apply Kp.drew | with_reducible apply Kp.alloc | (with_reducible refine Kp.setCell ?_ (.inr (Nat.le_refl _)) _))
  rintro e u1 ⟨x1, n1, c1, f1, rfl, hk, hq⟩
  have HQ := Lib.hid hq
  have HK2 : Hid (Kp (fun _ => False) W u1) := Lib.hid (by
    refine Kp.trans ?_ hk
    repeat (first | with_reducible exact HK'.out | with_reducible apply Kp.drew | with_reducible apply Kp.alloc | (with_reducible refine Kp.setCell ?_ (.inr HK'.out.size) _)))
  clear hk hq HP HK'
  have HK := Lib.hid HK2.out
  clear HK2
  go_wp2_with (go_at_call 6; refine Stop.mk ?_)
  unfold Stop
  refine (HQ.out _ (Kp.refl _ _)).mono ?_
  rintro e y ⟨rfl, hy⟩
  subst y
  clear HQ
  go_wp2_with (go_at_call 7; refine Stop.mk ?_)
  unfold Stop
  refine (HS.out _ HK.out).mono ?_
  rintro e v2 ⟨hk, o2, on2, oc2, er2, rfl, hp⟩
  have HK' := Lib.hid (HK.out.trans hk)
  have HP := Lib.hid hp
  clear hk hp HK HS
  go_wp2_with (go_at_call 8; refine Stop.mk ?_)
  unfold Stop
  refine (HP.out _ ?_).mono ?_
  · repeat (first | with_reducible exact Kp.refl _ _ | with_reducible apply Kp.drew | with_reducible apply Kp.alloc | (with_reducible refine Kp.setCell ?_ (.inr (Nat.le_refl _)) _))
  rintro e u2 ⟨x2, n2, c2, f2, rfl, hk, hq⟩
  have HQ := Lib.hid hq
  have HK2 : Hid (Kp (fun _ => False) W u2) := Lib.hid (by
    refine Kp.trans ?_ hk
    repeat (first | with_reducible exact HK'.out | with_reducible apply Kp.drew | with_reducible apply Kp.alloc | (with_reducible refine Kp.setCell ?_ (.inr HK'.out.size) _)))
  clear hk hq HP HK'
  have HK := Lib.hid HK2.out
  clear HK2
  go_wp2_with (go_at_call 6; refine Stop.mk ?_)
  unfold Stop
  refine (HQ.out _ (Kp.refl _ _)).mono ?_
  rintro e y ⟨rfl, hy⟩
  subst y
  clear HQ
  go_wp2_with (go_at_call 9; refine Stop.mk ?_)
  unfold Stop
  refine (HM.out _ HK.out).mono ?_
  rintro e v3 ⟨hk, m0, m1, m2, m3, m4, m5, m6, m7, my, oa3, na3, ca3, ob3, nb3, cb3, od3, nd3, cd3, er3, rfl, hp⟩
  have HK' := Lib.hid (HK.out.trans hk)
  have HP := Lib.hid hp
  clear hk hp HK HM
  go_wp2_with (go_at_call 10; refine Stop.mk ?_)
  unfold Stop
  refine (HP.out _ ?_).mono ?_
  · repeat (first | with_reducible exact Kp.refl _ _ | with_reducible apply Kp.drew | with_reducible apply Kp.alloc | (with_reducible refine Kp.setCell ?_ (.inr (Nat.le_refl _)) _))
  rintro e u3 ⟨x3, n3, c3, f3, rfl, hk, hq⟩
  have HQ := Lib.hid hq
  have HK2 : Hid (Kp (fun _ => False) W u3) := Lib.hid (by
    refine Kp.trans ?_ hk
    repeat (first | with_reducible exact HK'.out | with_reducible apply Kp.drew | with_reducible apply Kp.alloc | (with_reducible refine Kp.setCell ?_ (.inr HK'.out.size) _)))
  clear hk hq HP HK'
  have HK := Lib.hid HK2.out
  clear HK2
  go_wp2_with (go_at_call 6; refine Stop.mk ?_)
  unfold Stop
  refine (HQ.out _ (Kp.refl _ _)).mono ?_
  rintro e y ⟨rfl, hy⟩
  subst y
  clear HQ
  go_wp2_with (go_at_call 11; refine Stop.mk ?_)
  unfold Stop
  refine (HV.out _ HK.out).mono ?_
  rintro e v4 ⟨hk, s0, s1, er4, rfl, hp⟩
  have HK' := Lib.hid (HK.out.trans hk)
  have HP := Lib.hid hp
  clear hk hp HK HV
  go_wp2_with (go_at_call 12; refine Stop.mk ?_)
  unfold Stop
  refine (HP.out _ ?_).mono ?_
  · repeat (first | with_reducible exact Kp.refl _ _ | with_reducible apply Kp.drew | with_reducible apply Kp.alloc | (with_reducible refine Kp.setCell ?_ (.inr (Nat.le_refl _)) _))
  rintro e u4 ⟨x4, n4, c4, f4, rfl, hk, hq⟩
  have HQ := Lib.hid hq
  have HK2 : Hid (Kp (fun _ => False) W u4) := Lib.hid (by
    refine Kp.trans ?_ hk
    repeat (first | with_reducible exact HK'.out | with_reducible apply Kp.drew | with_reducible apply Kp.alloc | (with_reducible refine Kp.setCell ?_ (.inr HK'.out.size) _)))
  clear hk hq HP HK'
  have HK := Lib.hid HK2.out
  clear HK2
  go_wp2_with (go_at_call 6; refine Stop.mk ?_)
  unfold Stop
  refine (HQ.out _ (Kp.refl _ _)).mono ?_
  rintro e y ⟨rfl, hy⟩
  subst y
  clear HQ
  go_wp2_with (go_at_call 13; refine Stop.mk ?_)
  unfold Stop
  refine (HN.out _ HK.out).mono ?_
  rintro e v5 ⟨hk, p0, p1, oa5, na5, ca5, ob5, nb5, cb5, er5, rfl, hp⟩
  have HK' := Lib.hid (HK.out.trans hk)
  have HP := Lib.hid hp
  clear hk hp HK HN
  go_wp2_with (go_at_call 14; refine Stop.mk ?_)
  unfold Stop
  refine (HP.out _ ?_).mono ?_
  · repeat (first | with_reducible exact Kp.refl _ _ | with_reducible apply Kp.drew | with_reducible apply Kp.alloc | (with_reducible refine Kp.setCell ?_ (.inr (Nat.le_refl _)) _))
  rintro e u5 ⟨x5, n5, c5, f5, rfl, hk, hq⟩
  have HQ := Lib.hid hq
  have HK2 : Hid (Kp (fun _ => False) W u5) := Lib.hid (by
    refine Kp.trans ?_ hk
    repeat (first | with_reducible exact HK'.out | with_reducible apply Kp.drew | with_reducible apply Kp.alloc | (with_reducible refine Kp.setCell ?_ (.inr HK'.out.size) _)))
  clear hk hq HP HK'
  have HK := Lib.hid HK2.out
  clear HK2
  go_wp2_with (go_at_call 6; refine Stop.mk ?_)
  unfold Stop
  refine (HQ.out _ (Kp.refl _ _)).mono ?_
  rintro e y ⟨rfl, hy⟩
  subst y
  clear HQ
  go_wp2_with (go_at_call 15; refine Stop.mk ?_)
  unfold Stop
  refine (HR.out _ HK.out).mono ?_
  rintro e v6 ⟨hk, hres⟩
  have HK' := Lib.hid (HK.out.trans hk)
  clear hk HK HR
  rcases hres with rfl | ⟨bb, mm, ap, st, l, om, co, rs, rfl, hmach, hsmall, hsb⟩
  · go_wp2_with fail
    refine wp_region_held_drew (S := fun _ => True) (by kernel_rfl) trivial (fun hHeld => ?_)
    have HKL := Lib.hid HK'.out.drew
    clear HK' HW
    generalize v6.drew = y0 at HKL ⊢
    refine tk 0 (v := ?_) rfl ?_ (by assumption) ?_
    rotate_left
    · intro w hSw
      go_simp
      try with_reducible rfl
    try simp only [Act.put, List.getElem_toArray, List.getElem_cons_zero, List.getElem_cons_succ, List.setIfInBounds_toArray, List.set_cons_zero, List.set_cons_succ]
    refine tk 1 (v := ?_) rfl ?_ (by assumption) ?_
    rotate_left
    · intro w hSw
      go_simp
      try with_reducible rfl
    try simp only [Act.put, List.getElem_toArray, List.getElem_cons_zero, List.getElem_cons_succ, List.setIfInBounds_toArray, List.set_cons_zero, List.set_cons_succ]
    refine tk 2 (v := ?_) rfl ?_ (by assumption) ?_
    rotate_left
    · intro w hSw
      go_simp
      try with_reducible rfl
    try simp only [Act.put, List.getElem_toArray, List.getElem_cons_zero, List.getElem_cons_succ, List.setIfInBounds_toArray, List.set_cons_zero, List.set_cons_succ]
    refine rdy 3 (by kernel_rfl) rfl (fun K hK => ?_)
    go_simp
    refine (num_any _ _).mono ?_
    rintro e y ⟨rfl, hy⟩
    subst y
    refine hK.out _ _ hHeld (fun hHeld => ?_)
    clear hK K
    try simp only [Act.put, List.getElem_toArray, List.getElem_cons_zero, List.getElem_cons_succ, List.setIfInBounds_toArray, List.set_cons_zero, List.set_cons_succ]
    refine tk 4 (v := ?_) rfl ?_ (by assumption) ?_
    rotate_left
    · intro w hSw
      go_simp
      try with_reducible rfl
    try simp only [Act.put, List.getElem_toArray, List.getElem_cons_zero, List.getElem_cons_succ, List.setIfInBounds_toArray, List.set_cons_zero, List.set_cons_succ]
    refine tk 5 (v := ?_) rfl ?_ (by assumption) ?_
    rotate_left
    · intro w hSw
      go_simp
      try with_reducible rfl
    try simp only [Act.put, List.getElem_toArray, List.getElem_cons_zero, List.getElem_cons_succ, List.setIfInBounds_toArray, List.set_cons_zero, List.set_cons_succ]
    refine tkU 6 rfl (by assumption) ?_
    try simp only [Act.put, List.getElem_toArray, List.getElem_cons_zero, List.getElem_cons_succ, List.setIfInBounds_toArray, List.set_cons_zero, List.set_cons_succ]
    refine tkU 7 rfl (by assumption) ?_
    try simp only [Act.put, List.getElem_toArray, List.getElem_cons_zero, List.getElem_cons_succ, List.setIfInBounds_toArray, List.set_cons_zero, List.set_cons_succ]
    refine tkU 8 rfl (by assumption) ?_
    try simp only [Act.put, List.getElem_toArray, List.getElem_cons_zero, List.getElem_cons_succ, List.setIfInBounds_toArray, List.set_cons_zero, List.set_cons_succ]
    refine tkU 9 rfl (by assumption) ?_
    try simp only [Act.put, List.getElem_toArray, List.getElem_cons_zero, List.getElem_cons_succ, List.setIfInBounds_toArray, List.set_cons_zero, List.set_cons_succ]
    refine tkU 10 rfl (by assumption) ?_
    try simp only [Act.put, List.getElem_toArray, List.getElem_cons_zero, List.getElem_cons_succ, List.setIfInBounds_toArray, List.set_cons_zero, List.set_cons_succ]
    refine tkU 11 rfl (by assumption) ?_
    try simp only [Act.put, List.getElem_toArray, List.getElem_cons_zero, List.getElem_cons_succ, List.setIfInBounds_toArray, List.set_cons_zero, List.set_cons_succ]
    refine tk 12 (v := ?_) rfl ?_ (by assumption) ?_
    rotate_left
    · intro w hSw
      go_simp
      try with_reducible rfl
    try simp only [Act.put, List.getElem_toArray, List.getElem_cons_zero, List.getElem_cons_succ, List.setIfInBounds_toArray, List.set_cons_zero, List.set_cons_succ]
    refine tk 13 (v := ?_) rfl ?_ (by assumption) ?_
    rotate_left
    · intro w hSw
      go_simp
      try with_reducible rfl
    try simp only [Act.put, List.getElem_toArray, List.getElem_cons_zero, List.getElem_cons_succ, List.setIfInBounds_toArray, List.set_cons_zero, List.set_cons_succ]
    refine tk 14 (v := ?_) rfl ?_ (by assumption) ?_
    rotate_left
    · intro w hSw
      go_simp
      try with_reducible rfl
    try simp only [Act.put, List.getElem_toArray, List.getElem_cons_zero, List.getElem_cons_succ, List.setIfInBounds_toArray, List.set_cons_zero, List.set_cons_succ]
    refine wpAnyH_done (by kernel_rfl) ?_ _
    go_wp2_with (go_at_call 18; refine Stop.mk ?_)
    unfold Stop
    refine (HKN.out _ HKL.out).mono ?_
    rintro e z ⟨rfl, ko, kt, kout, ks, kb⟩
    have HFI := Lib.hid ((HKL.out.trans ⟨ko, kt, kout, ks, fun k hk _ => kb k hk⟩).below (Nat.le_refl _) (fun _ _ h => h))
    clear ko kt kout ks kb
    go_wp2_with fail
    go_ret
    exact ⟨rfl, HFI.out⟩
  · go_wp2_with fail
    refine wp_region_held_drew (S := fun w' => Row w' a (bytes b)) (by kernel_rfl) ((HW.out _ HK'.out).no ((Kp.refl _ _).drew)) (fun hHeld => ?_)
    have HMA := Lib.hid (hmach.no ((Kp.refl _ _).drew))
    have HSM := Lib.hid hsmall
    have HSB := Lib.hid hsb
    have HKL := Lib.hid HK'.out.drew
    clear HK' HW hmach hsmall hsb
    generalize v6.drew = y0 at HKL HMA hHeld ⊢
    refine tk 0 (v := ?_) rfl ?_ (by assumption) ?_
    rotate_left
    · intro w hSw
      go_simp
      try with_reducible rfl
    try simp only [Act.put, List.getElem_toArray, List.getElem_cons_zero, List.getElem_cons_succ, List.setIfInBounds_toArray, List.set_cons_zero, List.set_cons_succ]
    refine tk 1 (v := ?_) rfl ?_ (by assumption) ?_
    rotate_left
    · intro w hSw
      go_simp
      try with_reducible rfl
    try simp only [Act.put, List.getElem_toArray, List.getElem_cons_zero, List.getElem_cons_succ, List.setIfInBounds_toArray, List.set_cons_zero, List.set_cons_succ]
    refine tk 2 (v := ?_) rfl ?_ (by assumption) ?_
    rotate_left
    · intro w hSw
      go_simp
      try with_reducible rfl
    try simp only [Act.put, List.getElem_toArray, List.getElem_cons_zero, List.getElem_cons_succ, List.setIfInBounds_toArray, List.set_cons_zero, List.set_cons_succ]
    refine rdy 3 (by kernel_rfl) rfl (fun K hK => ?_)
    go_simp
    refine (num_any _ _).mono ?_
    rintro e y ⟨rfl, hy⟩
    subst y
    refine hK.out _ _ hHeld (fun hHeld => ?_)
    clear hK K
    try simp only [Act.put, List.getElem_toArray, List.getElem_cons_zero, List.getElem_cons_succ, List.setIfInBounds_toArray, List.set_cons_zero, List.set_cons_succ]
    refine tk 4 (v := ?_) rfl ?_ (by assumption) ?_
    rotate_left
    · intro w hSw
      go_simp
      try with_reducible rfl
    try simp only [Act.put, List.getElem_toArray, List.getElem_cons_zero, List.getElem_cons_succ, List.setIfInBounds_toArray, List.set_cons_zero, List.set_cons_succ]
    refine tk 5 (v := ?_) rfl ?_ (by assumption) ?_
    rotate_left
    · intro w hSw
      go_simp
      try with_reducible rfl
    try simp only [Act.put, List.getElem_toArray, List.getElem_cons_zero, List.getElem_cons_succ, List.setIfInBounds_toArray, List.set_cons_zero, List.set_cons_succ]
    refine tk 6 (v := ?_) rfl ?_ (by assumption) ?_
    rotate_left
    · intro w hSw
      go_simp
      try with_reducible rfl
    try simp only [Act.put, List.getElem_toArray, List.getElem_cons_zero, List.getElem_cons_succ, List.setIfInBounds_toArray, List.set_cons_zero, List.set_cons_succ]
    refine tk 9 (v := ?_) rfl ?_ (by assumption) ?_
    rotate_left
    · intro w hSw
      go_simp
      try with_reducible rfl
    try simp only [Act.put, List.getElem_toArray, List.getElem_cons_zero, List.getElem_cons_succ, List.setIfInBounds_toArray, List.set_cons_zero, List.set_cons_succ]
    refine tk 10 (v := .string (strOfNums b)) rfl ?_ (by assumption) ?_
    · intro w hSw
      have hc := hSw.str c
      go_simp
      try with_reducible rfl
    try simp only [Act.put, List.getElem_toArray, List.getElem_cons_zero, List.getElem_cons_succ, List.setIfInBounds_toArray, List.set_cons_zero, List.set_cons_succ]
    refine rdy 7 (by kernel_rfl) rfl (fun K hK => ?_)
    go_simp
    refine (mSave_any HMA.out HSM.out).mono ?_
    rw [HSB.out]
    rintro e y1 ⟨oq, cq, rfl, ho, hk1⟩
    refine hK.out _ _ (hHeld.no hk1) (fun hHeld => ?_)
    have hcv := ho.row.str cq
    have HKM := Lib.hid (HKL.out.trans hk1)
    clear ho hk1 HKL HMA HSM HSB
    clear hK K
    try simp only [Act.put, List.getElem_toArray, List.getElem_cons_zero, List.getElem_cons_succ, List.setIfInBounds_toArray, List.set_cons_zero, List.set_cons_succ]
    refine rdy 8 (by kernel_rfl) rfl (fun K hK => ?_)
    go_simp
    refine hK.out _ _ hHeld (fun hHeld => ?_)
    clear hcv
    clear hK K
    try simp only [Act.put, List.getElem_toArray, List.getElem_cons_zero, List.getElem_cons_succ, List.setIfInBounds_toArray, List.set_cons_zero, List.set_cons_succ]
    have hse := str_self (strOfNums b)
    refine tk 11 (v := ?_) rfl ?_ (by assumption) ?_
    rotate_left
    · intro w hSw
      go_simp
      try with_reducible rfl
    try simp only [Act.put, List.getElem_toArray, List.getElem_cons_zero, List.getElem_cons_succ, List.setIfInBounds_toArray, List.set_cons_zero, List.set_cons_succ]
    have HKL := Lib.hid HKM.out
    clear hse HKM
    refine tk 12 (v := ?_) rfl ?_ (by assumption) ?_
    rotate_left
    · intro w hSw
      go_simp
      try with_reducible rfl
    try simp only [Act.put, List.getElem_toArray, List.getElem_cons_zero, List.getElem_cons_succ, List.setIfInBounds_toArray, List.set_cons_zero, List.set_cons_succ]
    refine tk 13 (v := ?_) rfl ?_ (by assumption) ?_
    rotate_left
    · intro w hSw
      go_simp
      try with_reducible rfl
    try simp only [Act.put, List.getElem_toArray, List.getElem_cons_zero, List.getElem_cons_succ, List.setIfInBounds_toArray, List.set_cons_zero, List.set_cons_succ]
    refine tk 14 (v := ?_) rfl ?_ (by assumption) ?_
    rotate_left
    · intro w hSw
      go_simp
      try with_reducible rfl
    try simp only [Act.put, List.getElem_toArray, List.getElem_cons_zero, List.getElem_cons_succ, List.setIfInBounds_toArray, List.set_cons_zero, List.set_cons_succ]
    refine wpAnyH_done (by kernel_rfl) ?_ _
    go_wp2_with (go_at_call 18; refine Stop.mk ?_)
    unfold Stop
    refine (HKN.out _ HKL.out).mono ?_
    rintro e z ⟨rfl, ko, kt, kout, ks, kb⟩
    have HFI := Lib.hid ((HKL.out.trans ⟨ko, kt, kout, ks, fun k hk _ => kb k hk⟩).below (Nat.le_refl _) (fun _ _ h => h))
    clear ko kt kout ks kb
    go_wp2_with fail
    go_ret
    exact ⟨rfl, HFI.out⟩
end Go.Proofs.YtecohkoekifeiaaGreatDoor
