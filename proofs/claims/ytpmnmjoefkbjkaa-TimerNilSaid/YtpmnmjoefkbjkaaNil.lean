/-
  TimerNil: for every int the law returns true and leaves its argument as it was. No condition.
-/
import Derived.Test.YtpmnmjoefkbjkaaKn
import Derived.Test.YtpmnmjoefkbjkaaFin
namespace Go.Proofs.Ytpmnmjoefkbjkaa.timerNil
open Go.ChangeShapes Go.WideShapes Go.ChangeAt Go.RowKit

/-- No timer, or one that nobody made. -/
def NoT (w : World) (v : Value) : Prop := v = .pointer none ∨ ∃ b, v = .pointer (some ⟨b, 0, none⟩) ∧ Tm w b 0 0 0
theorem NoT.kp {w w' : World} {v : Value} (h : NoT w v) (k : Kp (fun _ => False) w w') : NoT w' v :=
  h.elim .inl fun ⟨b, e, hT⟩ => .inr ⟨b, e, k.heap hT fun h => h⟩
theorem none_no {w : World} {v : Value} (h : NoT w v) : Calls Try.prog 19 #[v] w fun e w' => e = .returned (.bool true) ∧ w = w' := by
  rcases h with rfl | ⟨b, rfl, hT⟩
  · exact none_nil w
  · exact none_at hT
theorem reset_no {w : World} {v : Value} (h : NoT w v) (d : Int) : Calls Try.prog 12 #[v, .int .i64 d] w fun e w' => e = .returned (.int .i64 1) ∧ w = w' := by
  have hN := none_no h
  clear h
  go_enter Try.func12, Try.ntmps12
  go_wp2_with (go_at_call 19; refine hN.mono ?_; rintro e w' ⟨rfl, rfl⟩)
  go_ret
  exact ⟨rfl, rfl⟩
theorem tick_no {w : World} {v : Value} (h : NoT w v) : Calls Try.prog 13 #[v] w fun e w' => e = .returned (.bool false) ∧ w = w' := by
  have hN := none_no h
  clear h
  go_enter Try.func13, Try.ntmps13
  go_wp2_with (go_at_call 19; refine hN.mono ?_; rintro e w' ⟨rfl, rfl⟩)
  go_ret
  exact ⟨rfl, rfl⟩
theorem quiet_no {w : World} {v : Value} (h : NoT w v) : Calls Try.prog 14 #[v] w fun e w' => e = .returned (.int .i64 0) ∧ w = w' := by
  have hN := none_no h
  clear h
  go_enter Try.func14, Try.ntmps14
  go_wp2_with (go_at_call 19; refine hN.mono ?_; rintro e w' ⟨rfl, rfl⟩)
  go_ret
  exact ⟨rfl, rfl⟩
theorem limit_no {w : World} {v : Value} (h : NoT w v) : Calls Try.prog 15 #[v] w fun e w' => e = .returned (.int .i64 0) ∧ w = w' := by
  have hN := none_no h
  clear h
  go_enter Try.func15, Try.ntmps15
  go_wp2_with (go_at_call 19; refine hN.mono ?_; rintro e w' ⟨rfl, rfl⟩)
  go_ret
  exact ⟨rfl, rfl⟩
theorem fresh_no {w : World} {v : Value} (h : NoT w v) : Calls Try.prog 16 #[v] w fun e w' => e = .returned (.bool false) ∧ Kp (fun _ => False) w w' := by
  have hN := fun k => none_no (w := w.drewN k) h
  clear h
  go_enter Try.func16, Try.ntmps16
  go_wp2_with fail
  go_quiet ((go_at_call 19; exact Calls.quiet_of_same ((hN _).mono fun _ _ h => ⟨h.1, h.2.symm⟩)))
  go_wp2
  go_ret
  exact ⟨rfl, (Kp.refl _ _).drewN _⟩

theorem walk (a0 : Int) (W : World) :
    Calls Try.prog 4 #[.int .i64 a0] W fun e w' => e = .returned (.bool true) ∧ Below W.heap.size W w' := by
  go_enter Try.func4, Try.ntmps4
  go_wp2_with fail
  go_loopw [3, 4] (fun t i wr => ∃ k : Int, i = .int .i64 k ∧ 0 ≤ k ∧ k ≤ 2 ∧ NoT wr t ∧ Kp (fun k => W.heap.size ≤ k) W wr) (fun _ i _ => (2 - intOf i).toNat)
  case atStart => exact ⟨0, rfl, by omega, by omega, .inl rfl, Kp.refl _ _⟩
  case round =>
    obtain ⟨k, rfl, k0, k1, hN, hB⟩ := hrel
    by_cases hk : k < 2
    · go_wp2_with (first | (go_at_call 12; refine (reset_no hN a0).mono ?_; rintro e w' ⟨rfl, rfl⟩) | (go_at_call 9; refine (num_any _ _).mono ?_; rintro e w' ⟨rfl, rfl⟩) | (go_at_call 13; refine (tick_no hN).mono ?_; rintro e w' ⟨rfl, rfl⟩) | (go_at_call 14; refine (quiet_no hN).mono ?_; rintro e w' ⟨rfl, rfl⟩) | (go_at_call 15; refine (limit_no hN).mono ?_; rintro e w' ⟨rfl, rfl⟩) | (go_at_call 16; refine (fresh_no hN).mono ?_; rintro e w1 ⟨rfl, hk1⟩))
      go_roundw
      case rel => exact ⟨k + 1, by go_num, by omega, by omega, .inr ⟨_, rfl, heap_new _ _⟩, (hB.trans hk1.no).alloc _⟩
      case measure => simp [intOf]; omega
    · go_wp2_with (first | (go_at_call 10; refine (knows_any _).mono ?_; rintro e w2 ⟨rfl, hk2⟩))
      go_ret
      exact ⟨rfl, (hB.trans hk2.no).belowW⟩

set_option maxRecDepth 100000 in
theorem lifted (os : Os) (started : os.Started) (H : Type) (enc : TypeId × Value → H) :
    ReturnsInHanded {} Try.checked os 4 .any (Rows.timerNilSpec.pre6 enc Try.prog Try.f4 Rows.timerNilRow.domain false) (Rows.timerNilSpec.post enc Try.prog Try.f4 false true false false) := by
  refine returnsInHanded_of_change (C := Try.checked) own started (by kernel_rfl) Try.func4
    (ChangeSpec.witness6 (enc := enc) (C := Try.checked) false ⟨#[], #[.int .i64 0], []⟩ 8 (by kernel_rfl) (by kernel_rfl) (by kernel_rfl) (by kernel_rfl)) ?_
  intro W base args ds gs before hval0 hW _ _
  have hval : ∀ (j : Nat) t v, Try.f4.params[j]? = some t → args[j]? = some v → Value.okWide Try.prog W .any base t v := hval0
  have hW' := hW
  obtain ⟨p, q, hA0, hV, rfl, hfz, hnd⟩ := hW
  have hA : DataW.TrodAll enc Try.prog W 0 (fun _ => true) true Try.f4.params.toList args.toList ds p := hA0
  rw [Try.params4] at hA hval
  obtain ⟨v0, vs0, d0, ds0, p0, q0, hargs, rfl, rfl, h0, r0⟩ := trodAll_cons hA
  obtain ⟨rfl, rfl, rfl⟩ := trodAll_nil r0
  obtain rfl : args = #[v0] := by cases args; simp_all
  obtain ⟨rfl, rfl⟩ := trodVars_none hV
  obtain ⟨a0, rfl, rfl, _, w0⟩ := open_int Try.underlying3 (hval 0 3 v0 rfl rfl) h0
  refine (walk a0 W).mono fun e W' ⟨he, hg⟩ => ?_
  subst he
  exact ⟨_, rfl, law_post laidOut (of_decide_eq_true (by kernel_rfl)) rfl Try.underlying4 rfl ⟨rfl, rfl, rfl⟩ hW' hg⟩

theorem over : Rows.timerNilRow.holds Try.pinned (OpenSpec.ofChange Rows.timerNilSpec) :=
  OpenClaim.holds_of_wide 4 Try.f4 rfl rfl rfl rfl rfl rfl rfl ⟨rfl, rfl, rfl, rfl, rfl⟩ rfl rfl rfl rfl rfl (by kernel_rfl) Try.func4 (by kernel_rfl)
    (of_decide_eq_true (by kernel_rfl)) (by unfold Func.isWrapper; first | (rw [if_pos (by decide +kernel)]; kernel_rfl) | (rw [if_neg (by decide +kernel)]; exact ⟨rfl, rfl⟩))
    (fun os started H enc _ => lifted os started H enc)

theorem proved : Rows.TimerNilSaid :=
  over
#print axioms proved
end Go.Proofs.Ytpmnmjoefkbjkaa.timerNil
