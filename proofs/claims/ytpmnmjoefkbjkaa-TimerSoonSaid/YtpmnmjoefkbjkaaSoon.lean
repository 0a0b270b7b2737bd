/-
  TimerSoon: for every three ints the law returns true and leaves its arguments as they were. No condition.
-/
import Derived.Test.YtpmnmjoefkbjkaaKn
import Derived.Test.YtpmnmjoefkbjkaaFin
namespace Go.Proofs.Ytpmnmjoefkbjkaa.timerSoon
open Go.ChangeShapes Go.WideShapes Go.ChangeAt Go.RowKit

theorem walk (a0 a1 a2 : Int) (W : World) :
    Calls Try.prog 5 #[.int .i64 a0, .int .i64 a1, .int .i64 a2] W fun e w' => e = .returned (.bool true) ∧ Below W.heap.size W w' := by
  have t0 := tmod_lo a0 1000 (by omega)
  have t2 := tmod_lo a2 100 (by omega)
  go_enter Try.func5, Try.ntmps5
  go_wp2_with fail
  generalize hL : (1 + a0.tmod 1000 % 1000 : Int) = L
  have l1 : 1 ≤ L := by omega
  have l2 : L ≤ 1000 := by omega
  have l3 := limOf_lo L a1 l1
  clear hL t0
  refine (new_yes _ L a1 l1 l2).mono ?_
  rintro e w1 ⟨rfl, hT1, hk1⟩
  obtain ⟨M, hM⟩ : ∃ M, M = limOf L a1 := ⟨_, rfl⟩
  rw [← hM] at hT1 l3
  have HM := Lib.hid hM
  clear hM
  go_wp2_with (first | (go_at_call 9; refine (num_any _ _).mono ?_; rintro e w' ⟨rfl, rfl⟩) | (go_at_call 10; refine (knows_any _).mono ?_; rintro e w2 ⟨rfl, hk2⟩))
  have hT2 : Tm w2 W.heap.size 0 M L := hk2.heap hT1 (fun h => h)
  have B2 : Kp (fun k => W.heap.size ≤ k) W w2 := hk1.no.trans hk2.no
  clear hT1 hk1 hk2
  go_loopw [9] (fun i wr => ∃ k n : Int, i = .int .i64 k ∧ 0 ≤ k ∧ k ≤ 100 ∧ 0 ≤ n ∧ n ≤ M ∧ Tm wr W.heap.size n M L ∧ Kp (fun k => W.heap.size ≤ k) W wr) (fun i _ => (100 - intOf i).toNat)
  case atStart => exact ⟨0, 0, rfl, by omega, by omega, by omega, by omega, hT2, B2⟩
  case round =>
    obtain ⟨k, n, rfl, k0, k1, n0, n1, hTr, hBr⟩ := hrel
    by_cases hk : k < a2.tmod 100 % 100
    · go_wp2_with (first | (go_at_call 13; refine (tick_any hTr n0 (by omega) l1).mono ?_; rintro e w3 ⟨rfl, hT3, hk3⟩))
      go_roundw
      case rel => exact ⟨k + 1, _, by go_num, by omega, by omega, by omega, by omega, hT3, hBr.trans (hk3.eq (Nat.le_refl _))⟩
      case measure => simp [intOf]; omega
    · have m1 : ¬ M < L := by omega
      have m2 : ¬ 2 * L ≤ M := by omega
      go_wp2_with (first | (go_at_call 12; refine (reset_any hTr a1 l1 l2).mono ?_; rintro e w3 ⟨rfl, hT3, hk3⟩; rw [← HM.out] at hT3) | (go_at_call 9; refine (num_any _ _).mono ?_; rintro e w' ⟨rfl, rfl⟩) | (go_at_call 15; refine (limit_any hT3 l1).mono ?_; rintro e w' ⟨rfl, rfl⟩))
      have B3 : Kp (fun k => W.heap.size ≤ k) W w3 := hBr.trans (hk3.eq (Nat.le_refl _))
      clear hTr hBr hk3 B2 hT2
      go_loopw [10] (fun i wr => ∃ k : Int, i = .int .i64 k ∧ 1 ≤ k ∧ k ≤ M + 1 ∧ Tm wr W.heap.size (k - 1) M L ∧ Kp (fun k => W.heap.size ≤ k) W wr) (fun i _ => (M + 1 - intOf i).toNat)
      case atStart => exact ⟨1, rfl, by omega, by omega, hT3, B3⟩
      case round =>
        obtain ⟨k, rfl, k0, k1, hTr, hBr⟩ := hrel
        by_cases hk : k ≤ M
        · have e1 : k - 1 + 1 = k := by omega
          by_cases hl : k < M
          · have hT4 := tick_low hTr (by omega) (by omega) (by omega) l1
            rw [e1] at hT4
            have hb : (k == M) = false := by simp; omega
            have H4 := Lib.hid hT4
            clear hT4 e1
            go_wp2_with (first | (go_at_call 13; refine H4.out.mono ?_; rintro e w4 ⟨rfl, hT4, hk4⟩) | (go_at_call 15; first | (refine (limit_any hTr l1).mono ?_; rintro e w' ⟨rfl, rfl⟩) | (refine (limit_any hT4 l1).mono ?_; rintro e w' ⟨rfl, rfl⟩)) | (go_at_call 16; refine (fresh_any hT4 l1).mono ?_; rintro e w5 ⟨rfl, hT5, hk5⟩))
            go_roundw
            case rel => exact ⟨k + 1, rfl, by omega, by omega, by rw [show k + 1 - 1 = k from by omega]; exact hT5, hBr.trans ((hk4.eq (Nat.le_refl _)).trans hk5.no)⟩
            case measure => simp [intOf]; omega
          · have hT4 := tick_high hTr (by omega) (by omega) (by omega) l1
            obtain rfl : k = M := by omega
            have H4 := Lib.hid hT4
            clear hT4 e1
            go_wp2_with (first | (go_at_call 13; refine H4.out.mono ?_; rintro e w4 ⟨rfl, hT4, hk4⟩) | (go_at_call 15; first | (refine (limit_any hTr l1).mono ?_; rintro e w' ⟨rfl, rfl⟩) | (refine (limit_any hT4 l1).mono ?_; rintro e w' ⟨rfl, rfl⟩)) | (go_at_call 16; refine (fresh_any hT4 l1).mono ?_; rintro e w5 ⟨rfl, hT5, hk5⟩))
            go_roundw
            case rel => exact ⟨k + 1, rfl, by omega, by omega, by rw [show k + 1 - 1 = k from by omega]; exact hT5, hBr.trans ((hk4.eq (Nat.le_refl _)).trans hk5.no)⟩
            case measure => simp [intOf]; omega
        · obtain rfl : k = M + 1 := by omega
          rw [show M + 1 - 1 = M from by omega] at hTr
          have hT4 := tick_high hTr (by omega) (by omega) (by omega) l1
          have H4 := Lib.hid hT4
          clear hT4
          go_wp2_with (first | (go_at_call 13; refine H4.out.mono ?_; rintro e w4 ⟨rfl, hT4, hk4⟩) | (go_at_call 15; first | (refine (limit_any hTr l1).mono ?_; rintro e w' ⟨rfl, rfl⟩) | (refine (limit_any hT4 l1).mono ?_; rintro e w' ⟨rfl, rfl⟩)) | (go_at_call 14; refine (quiet_any hT4 l1).mono ?_; rintro e w5 ⟨rfl, rfl⟩))
          go_ret
          exact ⟨rfl, (hBr.trans (hk4.eq (Nat.le_refl _))).belowW⟩

set_option maxRecDepth 100000 in
theorem lifted (os : Os) (started : os.Started) (H : Type) (enc : TypeId × Value → H) :
    ReturnsInHanded {} Try.checked os 5 .any (Rows.timerSoonSpec.pre6 enc Try.prog Try.f5 Rows.timerSoonRow.domain false) (Rows.timerSoonSpec.post enc Try.prog Try.f5 false true false false) := by
  refine returnsInHanded_of_change (C := Try.checked) own started (by kernel_rfl) Try.func5
    (ChangeSpec.witness6 (enc := enc) (C := Try.checked) false ⟨#[], #[.int .i64 0, .int .i64 0, .int .i64 0], []⟩ 8 (by kernel_rfl) (by kernel_rfl) (by kernel_rfl) (by kernel_rfl)) ?_
  intro W base args ds gs before hval0 hW _ _
  have hval : ∀ (j : Nat) t v, Try.f5.params[j]? = some t → args[j]? = some v → Value.okWide Try.prog W .any base t v := hval0
  have hW' := hW
  obtain ⟨p, q, hA0, hV, rfl, hfz, hnd⟩ := hW
  have hA : DataW.TrodAll enc Try.prog W 0 (fun _ => true) true Try.f5.params.toList args.toList ds p := hA0
  rw [Try.params5] at hA hval
  obtain ⟨v0, vs0, d0, ds0, p0, q0, hargs, rfl, rfl, h0, r0⟩ := trodAll_cons hA
  obtain ⟨v1, vs1, d1, ds1, p1, q1, rfl, rfl, rfl, h1, r1⟩ := trodAll_cons r0
  obtain ⟨v2, vs2, d2, ds2, p2, q2, rfl, rfl, rfl, h2, r2⟩ := trodAll_cons r1
  obtain ⟨rfl, rfl, rfl⟩ := trodAll_nil r2
  obtain rfl : args = #[v0, v1, v2] := by cases args; simp_all
  obtain ⟨rfl, rfl⟩ := trodVars_none hV
  obtain ⟨a0, rfl, rfl, _, w0⟩ := open_int Try.underlying3 (hval 0 3 v0 rfl rfl) h0
  obtain ⟨a1, rfl, rfl, _, w1⟩ := open_int Try.underlying3 (hval 1 3 v1 rfl rfl) h1
  obtain ⟨a2, rfl, rfl, _, w2⟩ := open_int Try.underlying3 (hval 2 3 v2 rfl rfl) h2
  refine (walk a0 a1 a2 W).mono fun e W' ⟨he, hg⟩ => ?_
  subst he
  exact ⟨_, rfl, law_post laidOut (of_decide_eq_true (by kernel_rfl)) rfl Try.underlying4 rfl ⟨rfl, rfl, rfl⟩ hW' hg⟩

theorem over : Rows.timerSoonRow.holds Try.pinned (OpenSpec.ofChange Rows.timerSoonSpec) :=
  OpenClaim.holds_of_wide 5 Try.f5 rfl rfl rfl rfl rfl rfl rfl ⟨rfl, rfl, rfl, rfl, rfl⟩ rfl rfl rfl rfl rfl (by kernel_rfl) Try.func5 (by kernel_rfl)
    (of_decide_eq_true (by kernel_rfl)) (by unfold Func.isWrapper; first | (rw [if_pos (by decide +kernel)]; kernel_rfl) | (rw [if_neg (by decide +kernel)]; exact ⟨rfl, rfl⟩))
    (fun os started H enc _ => lifted os started H enc)

theorem proved : Rows.TimerSoonSaid :=
  over
#print axioms proved
end Go.Proofs.Ytpmnmjoefkbjkaa.timerSoon
