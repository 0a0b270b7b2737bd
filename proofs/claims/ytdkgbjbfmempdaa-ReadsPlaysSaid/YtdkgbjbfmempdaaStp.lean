/-
  'step', walked once: one call on a book and on the document's book, whose answers agree. Where the servers of the call lie below both books.
-/
import Derived.Test.YtdkgbjbfmempdaaSt
import Derived.Deep.DeepCutAuto
namespace Go.Proofs.Ytdkgbjbfmempdaa
open Go.ChangeShapes Go.WideShapes Go.ChangeAt Go.RowKit Go.Deep
set_option linter.unusedVariables false

set_option maxRecDepth 100000 in
set_option maxHeartbeats 4000000 in
theorem step_any {w : World} {B b r : Nat} {me : Int} {l : List Rd} {h : Nat → Int} {a c : Option Addr} {cap cc : Nat} (hb : Book w B b me l h a cap) (hr : RBook w B r me l h c cc) (hd : ∀ j, Foot b a j → ¬ Foot r c j) (hl : l.length ≤ 100) (hB : B ≤ w.heap.size)
    (kind A C D : Int) (x : Option Addr) (zs : List Int) (cx : Nat) (hx : ∀ w', Kp (fun j => B ≤ j) w w' → Ints w' x zs) (mx : zs.length ≤ 17592186043904) :
    Calls Try.prog 16 #[.pointer (some ⟨b, 0, none⟩), .pointer (some ⟨r, 0, none⟩), .agg #[.int .i64 kind, .int .i64 A, .int .i64 C, .int .i64 D, .slice x zs.length cx]] w fun e w' => e = .returned (.bool true) ∧
      ∃ l' h' a' cap' c' cc', Book w' B b me l' h' a' cap' ∧ RBook w' B r me l' h' c' cc' ∧ (∀ j, Foot b a' j → ¬ Foot r c' j) ∧ l'.length ≤ 100 ∧ Kp (fun j => Foot b a j ∨ Foot r c j) w w' ∧ Moved w a a' ∧ Moved w c c' := by
  have s0 : St (w.alloc (.cells #[.int .i64 kind, .int .i64 A, .int .i64 C, .int .i64 D, .slice x zs.length cx] 32)) (w.alloc (.cells #[.int .i64 kind, .int .i64 A, .int .i64 C, .int .i64 D, .slice x zs.length cx] 32)) B w.heap.size b r #[.int .i64 kind, .int .i64 A, .int .i64 C, .int .i64 D, .slice x zs.length cx] me a c l h a cap l h c cc :=
    ⟨hb.no ((Kp.refl _ _).alloc _), hr.no ((Kp.refl _ _).alloc _), heap_new w _, fun e => absurd (hb.foot e).2 (Nat.lt_irrefl _), fun e => absurd (hr.foot e).2 (Nat.lt_irrefl _), hd, hl, hl, by simp; omega, Kp.refl _ _, Moved.same _ _, Moved.same _ _⟩
  have hka : Kp (fun _ => False) w (w.alloc (.cells #[.int .i64 kind, .int .i64 A, .int .i64 C, .int .i64 D, .slice x zs.length cx] 32)) := (Kp.refl _ _).alloc _
  have HX := Lib.hid hx
  have S0 := Lib.hid s0
  have HKA := Lib.hid hka
  have hfb : ∀ j, (Foot b a j ∨ Foot r c j) → B ≤ j := fun j h => h.elim (fun h => (hb.foot h).1) (fun h => (hr.foot h).1)
  have HFB := Lib.hid hfb
  clear hx hb hr hd hl s0 hka hfb
  go_enter Try.func16, Try.ntmps16
  go_upto_region 2 with fail
  generalize w.alloc (.cells #[.int .i64 kind, .int .i64 A, .int .i64 C, .int .i64 D, .slice x zs.length cx] 32) = wo at S0 HKA ⊢
  generalize w.heap.size = X at S0 ⊢
  have c0 : wo.cell? ⟨X, 0, none⟩ = some (.int .i64 kind) := cell_of S0.out.ox 0 rfl
  have c1 : wo.cell? ⟨X, 1, none⟩ = some (.int .i64 A) := cell_of S0.out.ox 1 rfl
  have c2 : wo.cell? ⟨X, 2, none⟩ = some (.int .i64 C) := cell_of S0.out.ox 2 rfl
  have c3 : wo.cell? ⟨X, 3, none⟩ = some (.int .i64 D) := cell_of S0.out.ox 3 rfl
  by_cases k0 : kind = 0
  · subst k0
    go_wp2_with fail
    go_region_held3 (fun w' => w'.cell? ⟨X, 1, none⟩ = some (.int .i64 A) ∧ w'.cell? ⟨X, 2, none⟩ = some (.int .i64 C) ∧ w'.cell? ⟨X, 3, none⟩ = some (.int .i64 D)) (first | go_keep | exact ⟨d1, d2, d3⟩) (first | (go_at_call 11; refine (ask_st (S0.out.still (by repeat (first | exact Kp.refl _ _ | apply Kp.drew | apply Kp.alloc))) A C D).mono ?_; rintro e w1 ⟨a1, cap1, rfl, s1⟩; have S1 := Lib.hid s1; have d1 : w1.cell? ⟨X, 1, none⟩ = some (.int .i64 A) := cell_of S1.out.ox 1 rfl; have d2 : w1.cell? ⟨X, 2, none⟩ = some (.int .i64 C) := cell_of S1.out.ox 2 rfl; have d3 : w1.cell? ⟨X, 3, none⟩ = some (.int .i64 D) := cell_of S1.out.ox 3 rfl; clear s1) | (go_at_call 9; refine (num_any _ _).mono ?_; rintro e w' ⟨rfl, rfl⟩) | (go_at_call 27; refine (rask_st (S1.out.still (by repeat (first | exact Kp.refl _ _ | apply Kp.drew | apply Kp.alloc))) A C D).mono ?_; rintro e w2 ⟨cx2, cc2, rfl, s2⟩; have S2 := Lib.hid s2; have d1 : w2.cell? ⟨X, 1, none⟩ = some (.int .i64 A) := cell_of S2.out.ox 1 rfl; have d2 : w2.cell? ⟨X, 2, none⟩ = some (.int .i64 C) := cell_of S2.out.ox 2 rfl; have d3 : w2.cell? ⟨X, 3, none⟩ = some (.int .i64 D) := cell_of S2.out.ox 3 rfl; clear s2))
    generalize (ask l A C D).2 = L at S1 S2 ⊢
    clear c0 c1 c2 c3 d1 d2 d3 S0 S1
    go_wp2_with fail
    refine (waiting_any S2.out.book (by have := S2.out.l1; omega)).mono ?_
    rintro e w3 ⟨o3, co3, rfl, ho3, hk3⟩
    have S3 := Lib.hid (S2.out.still hk3)
    clear hk3 S2
    go_wp2_with fail
    refine (rwaiting_any S3.out.rbook (by have := S3.out.l2; omega)).mono ?_
    rintro e w4 ⟨o4, co4, rfl, ho4, hk4⟩
    have S4 := Lib.hid (S3.out.still hk4)
    have hL := lists_any (ho3.ints.no hk4) ho4.ints (by rw [ids_length]; have := S4.out.l1; omega) co3 co4
    rw [ids_length, decide_eq_true rfl] at hL
    have HL := Lib.hid hL
    clear hk4 S3 ho3 ho4 hL
    go_wp2_with (go_at_call 18; refine HL.out.mono ?_; rintro e w5 ⟨rfl, hk5⟩)
    go_ret
    exact ⟨rfl, (S4.out.still hk5).done HKA.out⟩
  · have f0 : (kind == 0) = false := by simpa using k0
    clear k0
    by_cases k1 : kind = 1
    · subst k1
      go_wp2_with fail
      go_region_held3 (fun w' => w'.cell? ⟨X, 1, none⟩ = some (.int .i64 A) ∧ w'.cell? ⟨X, 2, none⟩ = some (.int .i64 C)) (first | go_keep | exact ⟨d1, d2⟩) (first | (go_at_call 12; refine (heard_st (S0.out.still (by repeat (first | exact Kp.refl _ _ | apply Kp.drew | apply Kp.alloc))) A C).mono ?_; rintro e w1 ⟨rfl, s1⟩; have S1 := Lib.hid s1; have d1 : w1.cell? ⟨X, 1, none⟩ = some (.int .i64 A) := cell_of S1.out.ox 1 rfl; have d2 : w1.cell? ⟨X, 2, none⟩ = some (.int .i64 C) := cell_of S1.out.ox 2 rfl; clear s1) | (go_at_call 9; refine (num_any _ _).mono ?_; rintro e w' ⟨rfl, rfl⟩) | (go_at_call 28; refine (hear_st (S1.out.still (by repeat (first | exact Kp.refl _ _ | apply Kp.drew | apply Kp.alloc))) A C).mono ?_; rintro e w2 ⟨rfl, s2⟩; have S2 := Lib.hid s2; have d1 : w2.cell? ⟨X, 1, none⟩ = some (.int .i64 A) := cell_of S2.out.ox 1 rfl; have d2 : w2.cell? ⟨X, 2, none⟩ = some (.int .i64 C) := cell_of S2.out.ox 2 rfl; clear s2))
      generalize (hearC h A C).2 = H at S1 S2 ⊢
      clear c0 c1 c2 c3 d1 d2 S0 S1 f0
      go_wp2_with fail
      refine (waiting_any S2.out.book (by have := S2.out.l1; omega)).mono ?_
      rintro e w3 ⟨o3, co3, rfl, ho3, hk3⟩
      have S3 := Lib.hid (S2.out.still hk3)
      clear hk3 S2
      go_wp2_with fail
      refine (rwaiting_any S3.out.rbook (by have := S3.out.l2; omega)).mono ?_
      rintro e w4 ⟨o4, co4, rfl, ho4, hk4⟩
      have S4 := Lib.hid (S3.out.still hk4)
      have hL := lists_any (ho3.ints.no hk4) ho4.ints (by rw [ids_length]; have := S4.out.l1; omega) co3 co4
      rw [ids_length, decide_eq_true rfl] at hL
      have HL := Lib.hid hL
      clear hk4 S3 ho3 ho4 hL
      go_wp2_with (go_at_call 18; refine HL.out.mono ?_; rintro e w5 ⟨rfl, hk5⟩)
      go_ret
      exact ⟨rfl, (S4.out.still hk5).done HKA.out⟩
    · have f1 : (kind == 1) = false := by simpa using k1
      clear k1
      by_cases k2 : kind = 2
      · subst k2
        have c4 : wo.cell? ⟨X, 4, none⟩ = some (.slice x zs.length cx) := cell_of S0.out.ox 4 rfl
        go_wp2_with fail
        go_region_held3 (fun w' => w'.cell? ⟨X, 4, none⟩ = some (.slice x zs.length cx)) (first | go_keep | exact d4) (first | (refine step_copy (g := wo.heap.size) (b := x) (m := zs.length) (c := cx) (by rfl) _ _ _ (by rfl) 3 info3 Try.underlying23 rfl (by decide) (by rfl) (by exact heap_new _ _) (by rfl) (news := zs.map (.int .i64)) (by simp) (Ints.news (HX.out _ (by repeat (first | exact HKA.out.no | apply Kp.drew | apply Kp.alloc)))) (one_int _) (by unfold maxLen; omega) (by omega) ?_; intro y' yc w1 ho1 hk1; have S1 := Lib.hid (S0.out.still (Kp.andThen (by repeat (first | exact Kp.refl _ _ | apply Kp.drew | apply Kp.alloc)) hk1 (fun i hi e => by have e2 : i = wo.heap.size := e; have h2 : i < wo.heap.size := hi; omega))); have O1 := Lib.hid ho1; have d4 : w1.cell? ⟨X, 4, none⟩ = some (.slice x zs.length cx) := cell_of S1.out.ox 4 rfl; clear ho1 hk1) | (go_at_call 13; refine (ready_st (S1.out.still (by repeat (first | exact Kp.refl _ _ | apply Kp.drew | apply Kp.alloc))) (O1.out.ints.no (by repeat (first | exact Kp.refl _ _ | apply Kp.drew | apply Kp.alloc))) (fun g hg e => by have := (O1.out.from hg).1; have := (S0.out.book.own.from e).2; omega) mx yc).mono ?_; rintro e w2 ⟨o2, co2, rfl, ha2, hf2, s2⟩; have S2 := Lib.hid s2; have A2 := Lib.hid ha2; have F2 := Lib.hid hf2; have d4 : w2.cell? ⟨X, 4, none⟩ = some (.slice x zs.length cx) := cell_of S2.out.ox 4 rfl; clear s2 ha2 hf2) | (go_at_call 30; refine (rready_st (S2.out.still (by repeat (first | exact Kp.refl _ _ | apply Kp.drew | apply Kp.alloc))) (HX.out _ (by repeat (first | exact (HKA.out.no.andThen S2.out.kp (fun j _ h => HFB.out j h)) | apply Kp.drew | apply Kp.alloc))) mx cx).mono ?_; rintro e w3 ⟨o3, co3, c3', cc3, rfl, ha3, hk3, s3⟩; have S3 := Lib.hid s3; have A3 := Lib.hid ha3; have A4 := Lib.hid ((A2.out.no (by repeat (first | exact Kp.refl _ _ | apply Kp.drew | apply Kp.alloc))).kp hk3 F2.out); have d4 : w3.cell? ⟨X, 4, none⟩ = some (.slice x zs.length cx) := cell_of S3.out.ox 4 rfl; clear s3 ha3 hk3) | (go_at_call 29; refine (same_any (A4.out.no (by repeat (first | exact Kp.refl _ _ | apply Kp.drew | apply Kp.alloc))) (A3.out.no (by repeat (first | exact Kp.refl _ _ | apply Kp.drew | apply Kp.alloc))) (by have := told_len (fun q => won zs (yes me h q.rd)) l S0.out.l1; omega) _ _).mono ?_; rintro e w4 ⟨rfl, hk4⟩; have S4 := Lib.hid (S3.out.still (Kp.andThen (by repeat (first | exact Kp.refl _ _ | apply Kp.drew | apply Kp.alloc)) hk4 (fun _ _ h => h))); have d4 : w4.cell? ⟨X, 4, none⟩ = some (.slice x zs.length cx) := cell_of S4.out.ox 4 rfl; clear hk4))
        generalize keep (fun q => won zs (yes me h q.rd)) l = L at S2 S3 S4 ⊢
        have S2 := Lib.hid S4.out
        clear c0 c1 c2 c3 c4 d4 S0 S1 S3 S4 A2 A3 A4 F2 O1 f0 f1
        go_wp2_with fail
        refine (waiting_any S2.out.book (by have := S2.out.l1; omega)).mono ?_
        rintro e w3 ⟨o3, co3, rfl, ho3, hk3⟩
        have S3 := Lib.hid (S2.out.still hk3)
        clear hk3 S2
        go_wp2_with fail
        refine (rwaiting_any S3.out.rbook (by have := S3.out.l2; omega)).mono ?_
        rintro e w4 ⟨o4, co4, rfl, ho4, hk4⟩
        have S4 := Lib.hid (S3.out.still hk4)
        have hL := lists_any (ho3.ints.no hk4) ho4.ints (by rw [ids_length]; have := S4.out.l1; omega) co3 co4
        rw [ids_length, decide_eq_true rfl] at hL
        have HL := Lib.hid hL
        clear hk4 S3 ho3 ho4 hL
        go_wp2_with (go_at_call 18; refine HL.out.mono ?_; rintro e w5 ⟨rfl, hk5⟩)
        go_ret
        exact ⟨rfl, (S4.out.still hk5).done HKA.out⟩
      · have f2 : (kind == 2) = false := by simpa using k2
        clear k2
        by_cases k3 : kind = 3
        · subst k3
          go_wp2_with fail
          refine (clear_st S0.out).mono ?_
          rintro e w6 ⟨o6, co6, rfl, ha6, hf6, s6⟩
          have S6 := Lib.hid s6
          clear s6 c0 c1 c2 c3
          go_wp2_with fail
          refine (rclear_st S6.out).mono ?_
          rintro e w7 ⟨o7, co7, rfl, ha7, hk7, s7⟩
          have hL7 := lists_any (ha6.far hk7 hf6) ha7 (by rw [ids_length]; have := S0.out.l1; omega) co6 co7
          rw [ids_length, decide_eq_true rfl] at hL7
          have HL7 := Lib.hid hL7
          have S7 := Lib.hid s7
          clear hL7 ha6 hf6 ha7 hk7 s7
          go_wp2_with (go_at_call 18; refine HL7.out.mono ?_; rintro e w8 ⟨rfl, hk8⟩)
          have S2 := Lib.hid (S7.out.still hk8)
          clear S0 S6 S7 hk8 f0 f1 f2
          go_wp2_with fail
          refine (waiting_any S2.out.book (by have := S2.out.l1; omega)).mono ?_
          rintro e w3 ⟨o3, co3, rfl, ho3, hk3⟩
          have S3 := Lib.hid (S2.out.still hk3)
          clear hk3 S2
          go_wp2_with fail
          refine (rwaiting_any S3.out.rbook (by have := S3.out.l2; omega)).mono ?_
          rintro e w4 ⟨o4, co4, rfl, ho4, hk4⟩
          have S4 := Lib.hid (S3.out.still hk4)
          have hL := lists_any (ho3.ints.no hk4) ho4.ints (by rw [ids_length]; have := S4.out.l1; omega) co3 co4
          rw [ids_length, decide_eq_true rfl] at hL
          have HL := Lib.hid hL
          clear hk4 S3 ho3 ho4 hL
          go_wp2_with (go_at_call 18; refine HL.out.mono ?_; rintro e w5 ⟨rfl, hk5⟩)
          go_ret
          exact ⟨rfl, (S4.out.still hk5).done HKA.out⟩
        · have f3 : (kind == 3) = false := by simpa using k3
          clear k3
          have S2 := Lib.hid S0.out
          clear S0 c1 c2 c3
          go_wp2_with fail
          refine (waiting_any S2.out.book (by have := S2.out.l1; omega)).mono ?_
          rintro e w3 ⟨o3, co3, rfl, ho3, hk3⟩
          have S3 := Lib.hid (S2.out.still hk3)
          clear hk3 S2
          go_wp2_with fail
          refine (rwaiting_any S3.out.rbook (by have := S3.out.l2; omega)).mono ?_
          rintro e w4 ⟨o4, co4, rfl, ho4, hk4⟩
          have S4 := Lib.hid (S3.out.still hk4)
          have hL := lists_any (ho3.ints.no hk4) ho4.ints (by rw [ids_length]; have := S4.out.l1; omega) co3 co4
          rw [ids_length, decide_eq_true rfl] at hL
          have HL := Lib.hid hL
          clear hk4 S3 ho3 ho4 hL
          go_wp2_with (go_at_call 18; refine HL.out.mono ?_; rintro e w5 ⟨rfl, hk5⟩)
          go_ret
          exact ⟨rfl, (S4.out.still hk5).done HKA.out⟩
end Go.Proofs.Ytdkgbjbfmempdaa
