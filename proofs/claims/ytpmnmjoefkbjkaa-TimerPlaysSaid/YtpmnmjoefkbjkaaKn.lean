/-
  The law's helpers, the reference's timer, and what must come ('knows'), each walked once. No condition but that the timers lie where the pointers say.
-/
import Derived.Test.YtpmnmjoefkbjkaaTm
namespace Go.Proofs.Ytpmnmjoefkbjkaa
open Go.ChangeShapes Go.WideShapes Go.ChangeAt Go.RowKit

theorem num_any (w : World) (x : Int) : Calls Try.prog 9 #[.int .i64 x] w fun e w' => e = .returned (.int .i64 x) ∧ w = w' := by
  go_enter Try.func9, Try.ntmps9
  go_wp2
  go_ret
  exact ⟨rfl, rfl⟩

theorem tick_low {w : World} {b : Nat} {n lim least : Int} (hT : Tm w b n lim least) (h0 : 0 ≤ n) (h1 : n + 1 < lim) (hm : lim ≤ 1000000) (hl : 1 ≤ least)  :
    Calls Try.prog 13 #[.pointer (some ⟨b, 0, none⟩)] w fun e w' => e = .returned (.bool false) ∧ Tm w' b (n + 1) lim least ∧ Kp (· = b) w w' := by
  have h := tick_any hT h0 (by omega) hl
  have e1 : min (n + 1) lim = n + 1 := by omega
  have e2 : (n + 1 == lim) = false := by simp; omega
  rw [e1, e2] at h
  exact h
theorem tick_high {w : World} {b : Nat} {n lim least : Int} (hT : Tm w b n lim least) (h0 : 0 ≤ n) (h1 : lim ≤ n + 1) (hn : n ≤ 1000000) (hl : 1 ≤ least)  :
    Calls Try.prog 13 #[.pointer (some ⟨b, 0, none⟩)] w fun e w' => e = .returned (.bool true) ∧ Tm w' b lim lim least ∧ Kp (· = b) w w' := by
  have h := tick_any hT h0 hn hl
  have e1 : min (n + 1) lim = lim := by omega
  have e2 : (lim == lim) = true := by simp
  rw [e1, e2] at h
  exact h

theorem knows_any (w : World) : Calls Try.prog 10 #[] w fun e w' => e = .returned (.bool true) ∧ Kp (fun _ => False) w w' := by
  go_enter Try.func10, Try.ntmps10
  go_wp2_with fail
  refine (new_yes _ 10 23 (by omega) (by omega)).mono ?_
  rintro e w1 ⟨rfl, hT, hk⟩
  rw [show limOf 10 23 = 13 from by decide] at hT
  go_wp2_with (first | (go_at_call 9; refine (num_any _ _).mono ?_; rintro e w' ⟨rfl, rfl⟩) | (go_at_call 15; refine (limit_any hT (by omega)).mono ?_; rintro e w' ⟨rfl, rfl⟩) | (go_at_call 16; refine (fresh_any hT (by omega)).mono ?_; rintro e w2 ⟨rfl, hT2, hk2⟩) | (go_at_call 13; refine (tick_low hT2 (by omega) (by omega) (by omega) (by omega)).mono ?_; rintro e w3 ⟨rfl, hT3, hk3⟩) | (go_at_call 14; refine (quiet_any hT3 (by omega)).mono ?_; rintro e w4 ⟨rfl, rfl⟩))
  go_ret
  exact ⟨rfl, (hk.no.trans (hk2.no.trans (hk3.eq (Nat.le_refl _)))).fin⟩
end Go.Proofs.Ytpmnmjoefkbjkaa
