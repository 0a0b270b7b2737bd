/-
  ClientPlays: for every two ints, every list of servers and every two lists of calls the law returns true and leaves its arguments as they were. No condition.
-/
import Derived.Test.YtjhefbkigmamfaaTp
import Derived.Test.YtjhefbkigmamfaaKn
namespace Go.Proofs.Ytjhefbkigmamfaa.clientPlays
open Go.ChangeShapes Go.WideShapes Go.ChangeAt Go.RowKit
set_option linter.unusedVariables false

theorem _root_.Go.Proofs.Ytjhefbkigmamfaa.TP.up2 {w : World} {B b1 r1 b2 r2 T1 T2 : Nat} (h : TP w B b1 r1 b2 r2 T1 T2) : TP w B b1 r1 b2 r2 T1 (T2 + 1) := by
  obtain ⟨M, h1, h2⟩ := h
  exact ⟨M, h1, h2.up⟩
theorem _root_.Go.Proofs.Ytjhefbkigmamfaa.TP.up1 {w : World} {B b1 r1 b2 r2 T1 T2 : Nat} (h : TP w B b1 r1 b2 r2 T1 T2) : TP w B b1 r1 b2 r2 (T1 + 1) T2 := by
  obtain ⟨M, h1, h2⟩ := h
  exact ⟨M, h1.up, h2⟩
theorem lit245 (w : World) : Row (w.alloc (.cells #[.int .i64 2, .int .i64 4, .int .i64 5] 3)) (some ⟨w.heap.size, 0, none⟩) (ints [2, 4, 5]) := by
  intro i v hv
  refine ⟨w.heap.size, 0, rfl, ?_⟩
  rw [Nat.zero_add]
  exact cell_of (heap_new w _) i (by simpa [ints] using hv)
theorem good7 : Good 7 [2, 4, 5] 2 := ⟨by decide, by decide, by decide, by decide, by decide⟩
set_option maxRecDepth 100000 in
set_option maxHeartbeats 8000000 in
theorem walk_good (i0 : Int) (a : Option Addr) (zs : List Int) (c : Nat) (pt : Int) (o1 : Option Addr) (l1 : List OpE) (k1 : Nat) (o2 : Option Addr) (l2 : List OpE) (k2 : Nat) (W : World) (hg : Good i0 zs pt) (hr : Row W a (ints zs)) (hm : zs.length ≤ 17592186043904) (ho1 : Ops W o1 l1) (hs1 : ∀ e ∈ l1, e.Sz) (ho2 : Ops W o2 l2) (hs2 : ∀ e ∈ l2, e.Sz) (hm1 : l1.length ≤ 1200000000000) (hm2 : l2.length ≤ 1200000000000) :
    Calls Try.prog 6 #[.int .i64 i0, .slice a zs.length c, .int .i64 pt, .slice o1 l1.length k1, .slice o2 l2.length k2] W fun e w' => e = .returned (.bool true) ∧ Below W.heap.size W w' := by
  have HO1 := Lib.hid ho1
  have HO2 := Lib.hid ho2
  have HS1 := Lib.hid hs1
  have HS2 := Lib.hid hs2
  have HR := Lib.hid hr
  have HM := Lib.hid hm
  have HG := Lib.hid hg
  obtain ⟨B, hB⟩ : ∃ B, B = W.heap.size := ⟨_, rfl⟩
  have HB := Lib.hid hB
  clear ho1 ho2 hs1 hs2 hr hm hg hB
  have HN1 := Lib.hid (new_good (c := c) HR.out HG.out)
  go_enter Try.func6, Try.ntmps6
  go_wp2_with fail
  refine HN1.out.mono ?_
  rintro e w1 ⟨R1, b1, sa1, sc1, rfl, c1, hk1⟩
  have C1 := Lib.hid c1
  have HK1 := Lib.hid hk1
  clear c1 hk1 HN1
  go_wp2_with fail
  refine (new_good (lit245 w1) good7).mono ?_
  rintro e w2 ⟨R2, b2, sa2, sc2, rfl, c2, hk2⟩
  have C2 := Lib.hid c2
  have HK2 := Lib.hid (show Kp (fun _ => False) w1 w2 from ((Kp.refl _ _).alloc _).trans hk2)
  have z2 : (w1.alloc (.cells #[.int .i64 2, .int .i64 4, .int .i64 5] 3)).heap.size = w1.heap.size + 1 := by simp
  have HZ2 := Lib.hid z2
  clear c2 hk2 z2
  go_wp2_with fail
  refine (rnew_good (c := c) (HR.out.no (HK1.out.trans HK2.out)) HG.out).mono ?_
  rintro e w3 ⟨R3, r1, sa3, sc3, rfl, c3, hk3⟩
  have C3 := Lib.hid c3
  have HK3 := Lib.hid hk3
  clear c3 hk3
  go_wp2_with fail
  refine (rnew_good (lit245 w3) good7).mono ?_
  rintro e w4 ⟨R4, r2, sa4, sc4, rfl, c4, hk4⟩
  have C4 := Lib.hid c4
  have HK4 := Lib.hid (show Kp (fun _ => False) w3 w4 from ((Kp.refl _ _).alloc _).trans hk4)
  have z4 : (w3.alloc (.cells #[.int .i64 2, .int .i64 4, .int .i64 5] 3)).heap.size = w3.heap.size + 1 := by simp
  have HZ4 := Lib.hid z4
  clear c4 hk4 z4
  have htp : TP w4 B b1 r1 b2 r2 0 0 := by
    have a1 := fun j h => C1.out.all (j := j) h
    have a2 := fun j h => C2.out.all (j := j) h
    have a3 := fun j h => C3.out.all (j := j) h
    have a4 := fun j h => C4.out.all (j := j) h
    have s1 := HK1.out.size
    have s2 := HK2.out.size
    have s3 := HK3.out.size
    have s4 := HK4.out.size
    have e2 := HZ2.out
    have e4 := HZ4.out
    have eB := HB.out
    refine ⟨fun j => j < w1.heap.size ∨ (w2.heap.size ≤ j ∧ j < w3.heap.size), ?_, ?_⟩
    · refine pair0 ((C1.out.base (by omega)).no ((HK2.out.trans HK3.out).trans HK4.out)) ((C3.out.base0 (by omega)).no HK4.out) (fun j h h' => ?_) (fun j h => ⟨fun h' => ?_, fun h' => ?_⟩)
      · have := a1 j h; have := a3 j h'; omega
      · have := a1 j h'; omega
      · have := a3 j h'; omega
    · refine pair0 ((C2.out.base (by omega)).no (HK3.out.trans HK4.out)) (C4.out.base0 (by omega)) (fun j h h' => ?_) (fun j h => ⟨fun h' => ?_, fun h' => ?_⟩)
      · have := a2 j h; have := a4 j h'; omega
      · have := a2 j h'; omega
      · have := a4 j h'; omega
  have HT4 := Lib.hid htp
  have HKW := Lib.hid (show Kp (fun j => B ≤ j) W w4 from (((HK1.out.trans HK2.out).trans HK3.out).trans HK4.out).no)
  clear htp C1 C2 C3 C4 HK1 HK2 HK3 HK4 HZ2 HZ4 HR HM HG
  go_wp2_with (first | (go_at_call 10; refine (num_dr _ _).mono ?_; rintro e w' ⟨rfl, rfl⟩))
  refine (knows_any _).mono ?_
  rintro e w5 ⟨rfl, hk5⟩
  have HT := Lib.hid (HT4.out.no hk5)
  have HK := Lib.hid (HKW.out.trans hk5.no)
  clear hk5 HT4 HKW
  go_wp2_with fail
  go_loopw [17] (fun q wr => ∃ i : Nat, q = .int .i64 i ∧ (i ≤ l1.length ∨ i ≤ l2.length) ∧ TP wr B b1 r1 b2 r2 i i ∧ Kp (fun j => B ≤ j) W wr) (fun q _ => l1.length + l2.length - (intOf q).toNat)
  case atStart => exact ⟨0, rfl, .inl (Nat.zero_le _), HT.out, HK.out⟩
  case round =>
    clear HT HK
    obtain ⟨i, rfl, hi, ht, hk⟩ := hrel
    have HT := Lib.hid ht
    have HK := Lib.hid hk
    have hi0 : (0 : Int) ≤ (i : Int) := by omega
    have hiM : i ≤ 1200000000000 := by omega
    clear ht hk
    by_cases hc1 : i < l1.length
    · have hc1I : (i : Int) < (l1.length : Int) := by omega
      by_cases hc2 : i < l2.length
      · have hc2I : (i : Int) < (l2.length : Int) := by omega
        clear hi
        obtain ⟨e1, he1⟩ : ∃ e, e = l1[i] := ⟨_, rfl⟩
        have hg1 : l1[i]? = some e1 := by rw [List.getElem?_eq_getElem (by omega), he1]
        have HSZ1 := Lib.hid (HS1.out e1 (by rw [he1]; exact List.getElem_mem _))
        obtain ⟨⟨ob1, of1, rfl, hob1, hcl1⟩, hin1⟩ := HO1.out i _ hg1
        have HIN1 := Lib.hid hin1
        have HCL1 := Lib.hid hcl1
        clear hg1 he1 hin1 hcl1
        obtain ⟨e2, he2⟩ : ∃ e, e = l2[i] := ⟨_, rfl⟩
        have hg2 : l2[i]? = some e2 := by rw [List.getElem?_eq_getElem (by omega), he2]
        have HSZ2 := Lib.hid (HS2.out e2 (by rw [he2]; exact List.getElem_mem _))
        obtain ⟨⟨ob2, of2, rfl, hob2, hcl2⟩, hin2⟩ := HO2.out i _ hg2
        have HIN2 := Lib.hid hin2
        have HCL2 := Lib.hid hcl2
        clear hg2 he2 hin2 hcl2
        have hrg1 := range_op HB.out HK.out hob1 HCL1.out
        have d1_0 : wr.cell? ⟨ob1, of1 + i * 11, none⟩ = some (.int .i64 e1.kind) := hrg1 0 _ rfl
        have d1_1 : wr.cell? ⟨ob1, of1 + i * 11 + 1, none⟩ = some (.int .i64 e1.o.kind) := hrg1 1 _ rfl
        have d1_2 : wr.cell? ⟨ob1, of1 + i * 11 + 2, none⟩ = some (.int .i64 e1.o.from_) := hrg1 2 _ rfl
        have d1_3 : wr.cell? ⟨ob1, of1 + i * 11 + 3, none⟩ = some (.int .i64 e1.o.most) := hrg1 3 _ rfl
        have d1_4 : wr.cell? ⟨ob1, of1 + i * 11 + 4, none⟩ = some (.slice e1.o.da e1.o.dl.length e1.o.dc) := hrg1 4 _ rfl
        have d1_5 : wr.cell? ⟨ob1, of1 + i * 11 + 5, none⟩ = some (.int .i64 e1.a.id) := hrg1 5 _ rfl
        have d1_6 : wr.cell? ⟨ob1, of1 + i * 11 + 6, none⟩ = some (.int .i64 e1.a.e) := hrg1 6 _ rfl
        have d1_7 : wr.cell? ⟨ob1, of1 + i * 11 + 7, none⟩ = some (.int .i64 e1.a.session) := hrg1 7 _ rfl
        have d1_8 : wr.cell? ⟨ob1, of1 + i * 11 + 8, none⟩ = some (.int .i64 e1.a.number) := hrg1 8 _ rfl
        have d1_9 : wr.cell? ⟨ob1, of1 + i * 11 + 9, none⟩ = some (.int .i64 e1.a.leader) := hrg1 9 _ rfl
        have d1_10 : wr.cell? ⟨ob1, of1 + i * 11 + 10, none⟩ = some (.slice e1.a.ra e1.a.rl.length e1.a.rc) := hrg1 10 _ rfl
        clear hrg1
        go_wp2_with fail
        refine (first_step HT.out (by omega) e1 (lowIn_of HB.out HK.out HIN1.out) HSZ1.out).mono ?_
        rintro e w5 ⟨rfl, hw5, hkw5⟩
        have Hw5 := Lib.hid hw5
        have HKw5 := Lib.hid (HK.out.trans hkw5)
        clear hw5 hkw5 d1_0 d1_1 d1_2 d1_3 d1_4 d1_5 d1_6 d1_7 d1_8 d1_9 d1_10
        have hrg2 := range_op HB.out HKw5.out hob2 HCL2.out
        have d2_0 : w5.cell? ⟨ob2, of2 + i * 11, none⟩ = some (.int .i64 e2.kind) := hrg2 0 _ rfl
        have d2_1 : w5.cell? ⟨ob2, of2 + i * 11 + 1, none⟩ = some (.int .i64 e2.o.kind) := hrg2 1 _ rfl
        have d2_2 : w5.cell? ⟨ob2, of2 + i * 11 + 2, none⟩ = some (.int .i64 e2.o.from_) := hrg2 2 _ rfl
        have d2_3 : w5.cell? ⟨ob2, of2 + i * 11 + 3, none⟩ = some (.int .i64 e2.o.most) := hrg2 3 _ rfl
        have d2_4 : w5.cell? ⟨ob2, of2 + i * 11 + 4, none⟩ = some (.slice e2.o.da e2.o.dl.length e2.o.dc) := hrg2 4 _ rfl
        have d2_5 : w5.cell? ⟨ob2, of2 + i * 11 + 5, none⟩ = some (.int .i64 e2.a.id) := hrg2 5 _ rfl
        have d2_6 : w5.cell? ⟨ob2, of2 + i * 11 + 6, none⟩ = some (.int .i64 e2.a.e) := hrg2 6 _ rfl
        have d2_7 : w5.cell? ⟨ob2, of2 + i * 11 + 7, none⟩ = some (.int .i64 e2.a.session) := hrg2 7 _ rfl
        have d2_8 : w5.cell? ⟨ob2, of2 + i * 11 + 8, none⟩ = some (.int .i64 e2.a.number) := hrg2 8 _ rfl
        have d2_9 : w5.cell? ⟨ob2, of2 + i * 11 + 9, none⟩ = some (.int .i64 e2.a.leader) := hrg2 9 _ rfl
        have d2_10 : w5.cell? ⟨ob2, of2 + i * 11 + 10, none⟩ = some (.slice e2.a.ra e2.a.rl.length e2.a.rc) := hrg2 10 _ rfl
        clear hrg2
        go_wp2_with fail
        refine (second_step Hw5.out (by omega) e2 (lowIn_of HB.out HKw5.out HIN2.out) HSZ2.out).mono ?_
        rintro e w6 ⟨rfl, hw6, hkw6⟩
        have Hw6 := Lib.hid hw6
        have HKw6 := Lib.hid (HKw5.out.trans hkw6)
        clear hw6 hkw6 d2_0 d2_1 d2_2 d2_3 d2_4 d2_5 d2_6 d2_7 d2_8 d2_9 d2_10
        go_wp2_with fail
        go_roundw
        case rel => exact ⟨i + 1, by go_num, by omega, Hw6.out, HKw6.out⟩
        case measure => simp [intOf]; omega
      · have hc2I : ¬ (i : Int) < (l2.length : Int) := by omega
        clear hi
        obtain ⟨e1, he1⟩ : ∃ e, e = l1[i] := ⟨_, rfl⟩
        have hg1 : l1[i]? = some e1 := by rw [List.getElem?_eq_getElem (by omega), he1]
        have HSZ1 := Lib.hid (HS1.out e1 (by rw [he1]; exact List.getElem_mem _))
        obtain ⟨⟨ob1, of1, rfl, hob1, hcl1⟩, hin1⟩ := HO1.out i _ hg1
        have HIN1 := Lib.hid hin1
        have HCL1 := Lib.hid hcl1
        clear hg1 he1 hin1 hcl1
        have hrg1 := range_op HB.out HK.out hob1 HCL1.out
        have d1_0 : wr.cell? ⟨ob1, of1 + i * 11, none⟩ = some (.int .i64 e1.kind) := hrg1 0 _ rfl
        have d1_1 : wr.cell? ⟨ob1, of1 + i * 11 + 1, none⟩ = some (.int .i64 e1.o.kind) := hrg1 1 _ rfl
        have d1_2 : wr.cell? ⟨ob1, of1 + i * 11 + 2, none⟩ = some (.int .i64 e1.o.from_) := hrg1 2 _ rfl
        have d1_3 : wr.cell? ⟨ob1, of1 + i * 11 + 3, none⟩ = some (.int .i64 e1.o.most) := hrg1 3 _ rfl
        have d1_4 : wr.cell? ⟨ob1, of1 + i * 11 + 4, none⟩ = some (.slice e1.o.da e1.o.dl.length e1.o.dc) := hrg1 4 _ rfl
        have d1_5 : wr.cell? ⟨ob1, of1 + i * 11 + 5, none⟩ = some (.int .i64 e1.a.id) := hrg1 5 _ rfl
        have d1_6 : wr.cell? ⟨ob1, of1 + i * 11 + 6, none⟩ = some (.int .i64 e1.a.e) := hrg1 6 _ rfl
        have d1_7 : wr.cell? ⟨ob1, of1 + i * 11 + 7, none⟩ = some (.int .i64 e1.a.session) := hrg1 7 _ rfl
        have d1_8 : wr.cell? ⟨ob1, of1 + i * 11 + 8, none⟩ = some (.int .i64 e1.a.number) := hrg1 8 _ rfl
        have d1_9 : wr.cell? ⟨ob1, of1 + i * 11 + 9, none⟩ = some (.int .i64 e1.a.leader) := hrg1 9 _ rfl
        have d1_10 : wr.cell? ⟨ob1, of1 + i * 11 + 10, none⟩ = some (.slice e1.a.ra e1.a.rl.length e1.a.rc) := hrg1 10 _ rfl
        clear hrg1
        go_wp2_with fail
        refine (first_step HT.out (by omega) e1 (lowIn_of HB.out HK.out HIN1.out) HSZ1.out).mono ?_
        rintro e w5 ⟨rfl, hw5, hkw5⟩
        have Hw5 := Lib.hid hw5
        have HKw5 := Lib.hid (HK.out.trans hkw5)
        clear hw5 hkw5 d1_0 d1_1 d1_2 d1_3 d1_4 d1_5 d1_6 d1_7 d1_8 d1_9 d1_10
        go_wp2_with fail
        go_roundw
        case rel => exact ⟨i + 1, by go_num, by omega, Hw5.out.up2, HKw5.out⟩
        case measure => simp [intOf]; omega
    · have hc1I : ¬ (i : Int) < (l1.length : Int) := by omega
      by_cases hc2 : i < l2.length
      · have hc2I : (i : Int) < (l2.length : Int) := by omega
        clear hi
        obtain ⟨e2, he2⟩ : ∃ e, e = l2[i] := ⟨_, rfl⟩
        have hg2 : l2[i]? = some e2 := by rw [List.getElem?_eq_getElem (by omega), he2]
        have HSZ2 := Lib.hid (HS2.out e2 (by rw [he2]; exact List.getElem_mem _))
        obtain ⟨⟨ob2, of2, rfl, hob2, hcl2⟩, hin2⟩ := HO2.out i _ hg2
        have HIN2 := Lib.hid hin2
        have HCL2 := Lib.hid hcl2
        clear hg2 he2 hin2 hcl2
        have hrg2 := range_op HB.out HK.out hob2 HCL2.out
        have d2_0 : wr.cell? ⟨ob2, of2 + i * 11, none⟩ = some (.int .i64 e2.kind) := hrg2 0 _ rfl
        have d2_1 : wr.cell? ⟨ob2, of2 + i * 11 + 1, none⟩ = some (.int .i64 e2.o.kind) := hrg2 1 _ rfl
        have d2_2 : wr.cell? ⟨ob2, of2 + i * 11 + 2, none⟩ = some (.int .i64 e2.o.from_) := hrg2 2 _ rfl
        have d2_3 : wr.cell? ⟨ob2, of2 + i * 11 + 3, none⟩ = some (.int .i64 e2.o.most) := hrg2 3 _ rfl
        have d2_4 : wr.cell? ⟨ob2, of2 + i * 11 + 4, none⟩ = some (.slice e2.o.da e2.o.dl.length e2.o.dc) := hrg2 4 _ rfl
        have d2_5 : wr.cell? ⟨ob2, of2 + i * 11 + 5, none⟩ = some (.int .i64 e2.a.id) := hrg2 5 _ rfl
        have d2_6 : wr.cell? ⟨ob2, of2 + i * 11 + 6, none⟩ = some (.int .i64 e2.a.e) := hrg2 6 _ rfl
        have d2_7 : wr.cell? ⟨ob2, of2 + i * 11 + 7, none⟩ = some (.int .i64 e2.a.session) := hrg2 7 _ rfl
        have d2_8 : wr.cell? ⟨ob2, of2 + i * 11 + 8, none⟩ = some (.int .i64 e2.a.number) := hrg2 8 _ rfl
        have d2_9 : wr.cell? ⟨ob2, of2 + i * 11 + 9, none⟩ = some (.int .i64 e2.a.leader) := hrg2 9 _ rfl
        have d2_10 : wr.cell? ⟨ob2, of2 + i * 11 + 10, none⟩ = some (.slice e2.a.ra e2.a.rl.length e2.a.rc) := hrg2 10 _ rfl
        clear hrg2
        go_wp2_with fail
        refine (second_step HT.out (by omega) e2 (lowIn_of HB.out HK.out HIN2.out) HSZ2.out).mono ?_
        rintro e w5 ⟨rfl, hw5, hkw5⟩
        have Hw5 := Lib.hid hw5
        have HKw5 := Lib.hid (HK.out.trans hkw5)
        clear hw5 hkw5 d2_0 d2_1 d2_2 d2_3 d2_4 d2_5 d2_6 d2_7 d2_8 d2_9 d2_10
        go_wp2_with fail
        go_roundw
        case rel => exact ⟨i + 1, by go_num, by omega, Hw5.out.up1, HKw5.out⟩
        case measure => simp [intOf]; omega
      · have hc2I : ¬ (i : Int) < (l2.length : Int) := by omega
        go_wp2_with fail
        go_ret
        exact ⟨rfl, (HB.out ▸ HK.out).belowW⟩
set_option maxRecDepth 100000 in
set_option maxHeartbeats 8000000 in
theorem walk_bad (i0 : Int) (a : Option Addr) (zs : List Int) (c : Nat) (pt : Int) (o1 : Option Addr) (l1 : List OpE) (k1 : Nat) (o2 : Option Addr) (l2 : List OpE) (k2 : Nat) (W : World) (hg : ¬ Good i0 zs pt) (hr : Row W a (ints zs)) (hm : zs.length ≤ 17592186043904) (ho1 : Ops W o1 l1) (hs1 : ∀ e ∈ l1, e.Sz) (ho2 : Ops W o2 l2) (hs2 : ∀ e ∈ l2, e.Sz) (hm1 : l1.length ≤ 1200000000000) (hm2 : l2.length ≤ 1200000000000) :
    Calls Try.prog 6 #[.int .i64 i0, .slice a zs.length c, .int .i64 pt, .slice o1 l1.length k1, .slice o2 l2.length k2] W fun e w' => e = .returned (.bool true) ∧ Below W.heap.size W w' := by
  have HO1 := Lib.hid ho1
  have HO2 := Lib.hid ho2
  have HS1 := Lib.hid hs1
  have HS2 := Lib.hid hs2
  have HR := Lib.hid hr
  have HM := Lib.hid hm
  have HG := Lib.hid hg
  obtain ⟨B, hB⟩ : ∃ B, B = W.heap.size := ⟨_, rfl⟩
  have HB := Lib.hid hB
  clear ho1 ho2 hs1 hs2 hr hm hg hB
  have HN1 := Lib.hid (new_bad (c := c) HR.out HM.out HG.out)
  go_enter Try.func6, Try.ntmps6
  go_wp2_with fail
  refine HN1.out.mono ?_
  rintro e w1 ⟨rfl, hk1⟩
  have HK1 := Lib.hid hk1
  clear hk1 HN1
  go_wp2_with fail
  refine (new_good (lit245 w1) good7).mono ?_
  rintro e w2 ⟨R2, b2, sa2, sc2, rfl, c2, hk2⟩
  have C2 := Lib.hid c2
  have HK2 := Lib.hid (show Kp (fun _ => False) w1 w2 from ((Kp.refl _ _).alloc _).trans hk2)
  have z2 : (w1.alloc (.cells #[.int .i64 2, .int .i64 4, .int .i64 5] 3)).heap.size = w1.heap.size + 1 := by simp
  have HZ2 := Lib.hid z2
  clear c2 hk2 z2
  go_wp2_with fail
  refine (rnew_bad (c := c) (HR.out.no (HK1.out.trans HK2.out)) HM.out HG.out).mono ?_
  rintro e w3 ⟨rfl, hk3⟩
  have HK3 := Lib.hid hk3
  clear hk3
  go_wp2_with fail
  refine (rnew_good (lit245 w3) good7).mono ?_
  rintro e w4 ⟨R4, r2, sa4, sc4, rfl, c4, hk4⟩
  have C4 := Lib.hid c4
  have HK4 := Lib.hid (show Kp (fun _ => False) w3 w4 from ((Kp.refl _ _).alloc _).trans hk4)
  have z4 : (w3.alloc (.cells #[.int .i64 2, .int .i64 4, .int .i64 5] 3)).heap.size = w3.heap.size + 1 := by simp
  have HZ4 := Lib.hid z4
  clear c4 hk4 z4
  have htp : PW w4 B (fun _ => False) b2 r2 0 := by
    have a2 := fun j h => C2.out.all (j := j) h
    have a4 := fun j h => C4.out.all (j := j) h
    have s1 := HK1.out.size
    have s2 := HK2.out.size
    have s3 := HK3.out.size
    have s4 := HK4.out.size
    have e2 := HZ2.out
    have e4 := HZ4.out
    have eB := HB.out
    refine pair0 ((C2.out.base (by omega)).no (HK3.out.trans HK4.out)) (C4.out.base0 (by omega)) (fun j h h' => ?_) (fun j h => h.elim)
    have := a2 j h; have := a4 j h'; omega
  have HT4 := Lib.hid htp
  have HKW := Lib.hid (show Kp (fun j => B ≤ j) W w4 from (((HK1.out.trans HK2.out).trans HK3.out).trans HK4.out).no)
  clear htp C2 C4 HK1 HK2 HK3 HK4 HZ2 HZ4 HR HM HG
  go_wp2_with (first | (go_at_call 10; refine (num_dr _ _).mono ?_; rintro e w' ⟨rfl, rfl⟩))
  refine (knows_any _).mono ?_
  rintro e w5 ⟨rfl, hk5⟩
  have HT := Lib.hid (HT4.out.no hk5)
  have HK := Lib.hid (HKW.out.trans hk5.no)
  clear hk5 HT4 HKW
  go_wp2_with fail
  go_loopw [17] (fun q wr => ∃ i : Nat, q = .int .i64 i ∧ (i ≤ l1.length ∨ i ≤ l2.length) ∧ PW wr B (fun _ => False) b2 r2 i ∧ Kp (fun j => B ≤ j) W wr) (fun q _ => l1.length + l2.length - (intOf q).toNat)
  case atStart => exact ⟨0, rfl, .inl (Nat.zero_le _), HT.out, HK.out⟩
  case round =>
    clear HT HK
    obtain ⟨i, rfl, hi, ht, hk⟩ := hrel
    have HT := Lib.hid ht
    have HK := Lib.hid hk
    have hi0 : (0 : Int) ≤ (i : Int) := by omega
    have hiM : i ≤ 1200000000000 := by omega
    clear ht hk
    by_cases hc1 : i < l1.length
    · have hc1I : (i : Int) < (l1.length : Int) := by omega
      by_cases hc2 : i < l2.length
      · have hc2I : (i : Int) < (l2.length : Int) := by omega
        clear hi
        obtain ⟨e2, he2⟩ : ∃ e, e = l2[i] := ⟨_, rfl⟩
        have hg2 : l2[i]? = some e2 := by rw [List.getElem?_eq_getElem (by omega), he2]
        have HSZ2 := Lib.hid (HS2.out e2 (by rw [he2]; exact List.getElem_mem _))
        obtain ⟨⟨ob2, of2, rfl, hob2, hcl2⟩, hin2⟩ := HO2.out i _ hg2
        have HIN2 := Lib.hid hin2
        have HCL2 := Lib.hid hcl2
        clear hg2 he2 hin2 hcl2
        have hrg2 := range_op HB.out HK.out hob2 HCL2.out
        have d2_0 : wr.cell? ⟨ob2, of2 + i * 11, none⟩ = some (.int .i64 e2.kind) := hrg2 0 _ rfl
        have d2_1 : wr.cell? ⟨ob2, of2 + i * 11 + 1, none⟩ = some (.int .i64 e2.o.kind) := hrg2 1 _ rfl
        have d2_2 : wr.cell? ⟨ob2, of2 + i * 11 + 2, none⟩ = some (.int .i64 e2.o.from_) := hrg2 2 _ rfl
        have d2_3 : wr.cell? ⟨ob2, of2 + i * 11 + 3, none⟩ = some (.int .i64 e2.o.most) := hrg2 3 _ rfl
        have d2_4 : wr.cell? ⟨ob2, of2 + i * 11 + 4, none⟩ = some (.slice e2.o.da e2.o.dl.length e2.o.dc) := hrg2 4 _ rfl
        have d2_5 : wr.cell? ⟨ob2, of2 + i * 11 + 5, none⟩ = some (.int .i64 e2.a.id) := hrg2 5 _ rfl
        have d2_6 : wr.cell? ⟨ob2, of2 + i * 11 + 6, none⟩ = some (.int .i64 e2.a.e) := hrg2 6 _ rfl
        have d2_7 : wr.cell? ⟨ob2, of2 + i * 11 + 7, none⟩ = some (.int .i64 e2.a.session) := hrg2 7 _ rfl
        have d2_8 : wr.cell? ⟨ob2, of2 + i * 11 + 8, none⟩ = some (.int .i64 e2.a.number) := hrg2 8 _ rfl
        have d2_9 : wr.cell? ⟨ob2, of2 + i * 11 + 9, none⟩ = some (.int .i64 e2.a.leader) := hrg2 9 _ rfl
        have d2_10 : wr.cell? ⟨ob2, of2 + i * 11 + 10, none⟩ = some (.slice e2.a.ra e2.a.rl.length e2.a.rc) := hrg2 10 _ rfl
        clear hrg2
        go_wp2_with fail
        refine (lone_step HT.out (by omega) e2 (lowIn_of HB.out HK.out HIN2.out) HSZ2.out).mono ?_
        rintro e w5 ⟨rfl, hw5, hkw5⟩
        have Hw5 := Lib.hid hw5
        have HKw5 := Lib.hid (HK.out.trans hkw5)
        clear hw5 hkw5 d2_0 d2_1 d2_2 d2_3 d2_4 d2_5 d2_6 d2_7 d2_8 d2_9 d2_10
        go_wp2_with fail
        go_roundw
        case rel => exact ⟨i + 1, by go_num, by omega, Hw5.out, HKw5.out⟩
        case measure => simp [intOf]; omega
      · have hc2I : ¬ (i : Int) < (l2.length : Int) := by omega
        clear hi
        go_wp2_with fail
        go_roundw
        case rel => exact ⟨i + 1, by go_num, by omega, HT.out.up, HK.out⟩
        case measure => simp [intOf]; omega
    · have hc1I : ¬ (i : Int) < (l1.length : Int) := by omega
      by_cases hc2 : i < l2.length
      · have hc2I : (i : Int) < (l2.length : Int) := by omega
        clear hi
        obtain ⟨e2, he2⟩ : ∃ e, e = l2[i] := ⟨_, rfl⟩
        have hg2 : l2[i]? = some e2 := by rw [List.getElem?_eq_getElem (by omega), he2]
        have HSZ2 := Lib.hid (HS2.out e2 (by rw [he2]; exact List.getElem_mem _))
        obtain ⟨⟨ob2, of2, rfl, hob2, hcl2⟩, hin2⟩ := HO2.out i _ hg2
        have HIN2 := Lib.hid hin2
        have HCL2 := Lib.hid hcl2
        clear hg2 he2 hin2 hcl2
        have hrg2 := range_op HB.out HK.out hob2 HCL2.out
        have d2_0 : wr.cell? ⟨ob2, of2 + i * 11, none⟩ = some (.int .i64 e2.kind) := hrg2 0 _ rfl
        have d2_1 : wr.cell? ⟨ob2, of2 + i * 11 + 1, none⟩ = some (.int .i64 e2.o.kind) := hrg2 1 _ rfl
        have d2_2 : wr.cell? ⟨ob2, of2 + i * 11 + 2, none⟩ = some (.int .i64 e2.o.from_) := hrg2 2 _ rfl
        have d2_3 : wr.cell? ⟨ob2, of2 + i * 11 + 3, none⟩ = some (.int .i64 e2.o.most) := hrg2 3 _ rfl
        have d2_4 : wr.cell? ⟨ob2, of2 + i * 11 + 4, none⟩ = some (.slice e2.o.da e2.o.dl.length e2.o.dc) := hrg2 4 _ rfl
        have d2_5 : wr.cell? ⟨ob2, of2 + i * 11 + 5, none⟩ = some (.int .i64 e2.a.id) := hrg2 5 _ rfl
        have d2_6 : wr.cell? ⟨ob2, of2 + i * 11 + 6, none⟩ = some (.int .i64 e2.a.e) := hrg2 6 _ rfl
        have d2_7 : wr.cell? ⟨ob2, of2 + i * 11 + 7, none⟩ = some (.int .i64 e2.a.session) := hrg2 7 _ rfl
        have d2_8 : wr.cell? ⟨ob2, of2 + i * 11 + 8, none⟩ = some (.int .i64 e2.a.number) := hrg2 8 _ rfl
        have d2_9 : wr.cell? ⟨ob2, of2 + i * 11 + 9, none⟩ = some (.int .i64 e2.a.leader) := hrg2 9 _ rfl
        have d2_10 : wr.cell? ⟨ob2, of2 + i * 11 + 10, none⟩ = some (.slice e2.a.ra e2.a.rl.length e2.a.rc) := hrg2 10 _ rfl
        clear hrg2
        go_wp2_with fail
        refine (lone_step HT.out (by omega) e2 (lowIn_of HB.out HK.out HIN2.out) HSZ2.out).mono ?_
        rintro e w5 ⟨rfl, hw5, hkw5⟩
        have Hw5 := Lib.hid hw5
        have HKw5 := Lib.hid (HK.out.trans hkw5)
        clear hw5 hkw5 d2_0 d2_1 d2_2 d2_3 d2_4 d2_5 d2_6 d2_7 d2_8 d2_9 d2_10
        go_wp2_with fail
        go_roundw
        case rel => exact ⟨i + 1, by go_num, by omega, Hw5.out, HKw5.out⟩
        case measure => simp [intOf]; omega
      · have hc2I : ¬ (i : Int) < (l2.length : Int) := by omega
        go_wp2_with fail
        go_ret
        exact ⟨rfl, (HB.out ▸ HK.out).belowW⟩
theorem walk (i0 : Int) (a : Option Addr) (zs : List Int) (c : Nat) (pt : Int) (o1 : Option Addr) (l1 : List OpE) (k1 : Nat) (o2 : Option Addr) (l2 : List OpE) (k2 : Nat) (W : World) (hr : Row W a (ints zs)) (hm : zs.length ≤ 17592186043904) (ho1 : Ops W o1 l1) (hs1 : l1.length * 120 ≤ 140737488351232 ∧ ∀ e ∈ l1, e.Sz) (ho2 : Ops W o2 l2) (hs2 : l2.length * 120 ≤ 140737488351232 ∧ ∀ e ∈ l2, e.Sz) :
    Calls Try.prog 6 #[.int .i64 i0, .slice a zs.length c, .int .i64 pt, .slice o1 l1.length k1, .slice o2 l2.length k2] W fun e w' => e = .returned (.bool true) ∧ Below W.heap.size W w' := by
  by_cases hg : Good i0 zs pt
  · exact walk_good i0 a zs c pt o1 l1 k1 o2 l2 k2 W hg hr hm ho1 hs1.2 ho2 hs2.2 (by omega) (by omega)
  · exact walk_bad i0 a zs c pt o1 l1 k1 o2 l2 k2 W hg hr hm ho1 hs1.2 ho2 hs2.2 (by omega) (by omega)

set_option maxRecDepth 100000 in
theorem lifted (os : Os) (started : os.Started) (H : Type) (enc : TypeId × Value → H) :
    ReturnsInHanded {} Try.checked os 6 .any (Rows.clientPlaysSpec.pre6 enc Try.prog Try.f6 Rows.clientPlaysRow.domain false) (Rows.clientPlaysSpec.post enc Try.prog Try.f6 false true false false) := by
  refine returnsInHanded_of_change_sized (C := Try.checked) own started (by kernel_rfl) Try.func6
    (ChangeSpec.witness6 (enc := enc) (C := Try.checked) false ⟨#[], #[.int .i64 0, .slice none 0 0, .int .i64 0, .slice none 0 0, .slice none 0 0], []⟩ 8 (by kernel_rfl) (by kernel_rfl) (by kernel_rfl) (by kernel_rfl)) ?_
  intro W base args ds gs before hval0 hW _ hsz _
  have hval : ∀ (j : Nat) t v, Try.f6.params[j]? = some t → args[j]? = some v → Value.okWide Try.prog W .any base t v := hval0
  have hW' := hW
  obtain ⟨p, q, hA0, hV, rfl, hfz, hnd⟩ := hW
  have hA : DataW.TrodAll enc Try.prog W 0 (fun _ => true) true Try.f6.params.toList args.toList ds p := hA0
  rw [Try.params6] at hA hval
  obtain ⟨v0, vs0, d0, ds0, p0, q0, hargs, rfl, rfl, h0, r0⟩ := trodAll_cons hA
  obtain ⟨v1, vs1, d1, ds1, p1, q1, rfl, rfl, rfl, h1, r1⟩ := trodAll_cons r0
  obtain ⟨v2, vs2, d2, ds2, p2, q2, rfl, rfl, rfl, h2, r2⟩ := trodAll_cons r1
  obtain ⟨v3, vs3, d3, ds3, p3, q3, rfl, rfl, rfl, h3, r3⟩ := trodAll_cons r2
  obtain ⟨v4, vs4, d4, ds4, p4, q4, rfl, rfl, rfl, h4, r4⟩ := trodAll_cons r3
  obtain ⟨rfl, rfl, rfl⟩ := trodAll_nil r4
  obtain rfl : args = #[v0, v1, v2, v3, v4] := by cases args; simp_all
  obtain ⟨rfl, rfl⟩ := trodVars_none hV
  obtain ⟨a0, rfl, rfl, _, w0⟩ := open_int Try.underlying3 (hval 0 3 v0 rfl rfl) h0
  obtain ⟨x, zs, c, rfl, hX, hZ⟩ := open_il (hval 1 22 v1 rfl rfl) h1
  have mx := il_le hsz (j := 1) rfl rfl hZ
  obtain ⟨a2, rfl, rfl, _, w2⟩ := open_int Try.underlying3 (hval 2 3 v2 rfl rfl) h2
  obtain ⟨o1, l1, k1, rfl, hO1, hS1⟩ := open_ops (hval 3 50 v3 rfl rfl) h3
  obtain ⟨o2, l2, k2, rfl, hO2, hS2⟩ := open_ops (hval 4 50 v4 rfl rfl) h4
  refine (walk a0 x zs c a2 o1 l1 k1 o2 l2 k2 W hX mx hO1 (hS1 (reaches_of hsz (j := 3) rfl rfl)) hO2 (hS2 (reaches_of hsz (j := 4) rfl rfl))).mono fun e W' ⟨he, hg⟩ => ?_
  subst he
  exact ⟨_, rfl, law_post laidOut (of_decide_eq_true (by kernel_rfl)) rfl Try.underlying4 rfl ⟨rfl, rfl, rfl⟩ hW' hg⟩

theorem over : Rows.clientPlaysRow.holds Try.pinned (OpenSpec.ofChange Rows.clientPlaysSpec) :=
  OpenClaim.holds_of_wide 6 Try.f6 rfl rfl rfl rfl rfl rfl rfl ⟨rfl, rfl, rfl, rfl, rfl⟩ rfl rfl rfl rfl rfl (by kernel_rfl) Try.func6 (by kernel_rfl)
    (of_decide_eq_true (by kernel_rfl)) (by unfold Func.isWrapper; first | (rw [if_pos (by decide +kernel)]; kernel_rfl) | (rw [if_neg (by decide +kernel)]; exact ⟨rfl, rfl⟩))
    (fun os started H enc _ => lifted os started H enc)

theorem proved : Rows.ClientPlaysSaid :=
  over
#print axioms proved
end Go.Proofs.Ytjhefbkigmamfaa.clientPlays
