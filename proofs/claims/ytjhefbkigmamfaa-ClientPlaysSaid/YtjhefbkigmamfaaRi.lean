/-
  Which orders are right, in the program and in the document: each walked once. No condition.
-/
import Derived.Test.YtjhefbkigmamfaaCg
namespace Go.Proofs.Ytjhefbkigmamfaa
open Go.ChangeShapes Go.WideShapes Go.ChangeAt Go.RowKit
set_option linter.unusedVariables false

def rightO (k f m : Int) (n : Nat) : Bool := if k = 1 then true else if k = 2 then decide (n ≤ 1024) else if k = 3 then (decide (0 ≤ f) && decide (0 ≤ m)) else if k = 4 then decide (0 ≤ f) else if k = 5 ∨ k = 6 then (decide (0 ≤ f) && decide (f < 16)) else false

set_option maxHeartbeats 4000000 in
theorem right28 (w : World) (k f m : Int) (a : Option Addr) (n c : Nat) : Calls Try.prog 28 #[.agg #[.int .i64 k, .int .i64 f, .int .i64 m, .slice a n c]] w fun e w' => e = .returned (.bool (rightO k f m n)) ∧ Kp (fun _ => False) w w' := by
  have hk : ∀ o, Kp (fun _ => False) w (w.alloc o) := fun o => (Kp.refl _ _).alloc o
  have HK := Lib.hid hk
  clear hk
  by_cases h1 : k = 1
  · subst h1
    go_enter Try.func28, Try.ntmps28
    go_wp2_with fail
    go_ret
    exact ⟨rfl, HK.out _⟩
  · by_cases h2 : k = 2
    · subst h2
      have HR := Lib.hid (show rightO 2 f m n = decide ((n : Int) ≤ 1024) by simp [rightO]; omega)
      clear h1
      go_enter Try.func28, Try.ntmps28
      go_wp2_with fail
      go_ret
      exact ⟨by rw [HR.out]; rfl, HK.out _⟩
    · by_cases h3 : k = 3
      · subst h3
        by_cases hm : m < 0
        · have hmd : decide (0 ≤ m) = false := decide_eq_false (by omega)
          by_cases hf : 0 ≤ f
          · have HR := Lib.hid (show rightO 3 f m n = false by simp [rightO]; omega)
            clear h1 h2
            go_enter Try.func28, Try.ntmps28
            go_wp2_with fail
            go_ret
            exact ⟨by rw [HR.out]; rfl, HK.out _⟩
          · have HR := Lib.hid (show rightO 3 f m n = false by simp [rightO]; omega)
            clear h1 h2
            go_enter Try.func28, Try.ntmps28
            go_wp2_with fail
            go_ret
            exact ⟨by rw [HR.out]; rfl, HK.out _⟩
        · by_cases hf : 0 ≤ f
          · have HR := Lib.hid (show rightO 3 f m n = true by simp [rightO]; omega)
            clear h1 h2
            go_enter Try.func28, Try.ntmps28
            go_wp2_with fail
            go_ret
            exact ⟨by rw [HR.out]; rfl, HK.out _⟩
          · have HR := Lib.hid (show rightO 3 f m n = false by simp [rightO]; omega)
            clear h1 h2
            go_enter Try.func28, Try.ntmps28
            go_wp2_with fail
            go_ret
            exact ⟨by rw [HR.out]; rfl, HK.out _⟩
      · by_cases h4 : k = 4
        · subst h4
          have HR := Lib.hid (show rightO 4 f m n = decide (0 ≤ f) by simp [rightO])
          clear h1 h2 h3
          go_enter Try.func28, Try.ntmps28
          go_wp2_with fail
          go_ret
          exact ⟨by rw [HR.out]; rfl, HK.out _⟩
        · have e1 : (k == 1) = false := by simpa using h1
          have e2 : (k == 2) = false := by simpa using h2
          have e3 : (k == 3) = false := by simpa using h3
          have e4 : (k == 4) = false := by simpa using h4
          by_cases h5 : k = 5
          · subst h5
            by_cases hf : 0 ≤ f
            · have HR := Lib.hid (show rightO 5 f m n = decide (f < 16) by simp [rightO, hf])
              clear h1 h2 h3 h4 e1 e2 e3 e4
              go_enter Try.func28, Try.ntmps28
              go_wp2_with fail
              go_ret
              exact ⟨by rw [HR.out]; rfl, HK.out _⟩
            · have HR := Lib.hid (show rightO 5 f m n = false by simp [rightO]; omega)
              clear h1 h2 h3 h4 e1 e2 e3 e4
              go_enter Try.func28, Try.ntmps28
              go_wp2_with fail
              go_ret
              exact ⟨by rw [HR.out]; rfl, HK.out _⟩
          · by_cases h6 : k = 6
            · subst h6
              by_cases hf : 0 ≤ f
              · have HR := Lib.hid (show rightO 6 f m n = decide (f < 16) by simp [rightO, hf])
                clear h1 h2 h3 h4 h5 e1 e2 e3 e4
                go_enter Try.func28, Try.ntmps28
                go_wp2_with fail
                go_ret
                exact ⟨by rw [HR.out]; rfl, HK.out _⟩
              · have HR := Lib.hid (show rightO 6 f m n = false by simp [rightO]; omega)
                clear h1 h2 h3 h4 h5 e1 e2 e3 e4
                go_enter Try.func28, Try.ntmps28
                go_wp2_with fail
                go_ret
                exact ⟨by rw [HR.out]; rfl, HK.out _⟩
            · have e5 : (k == 5) = false := by simpa using h5
              have e6 : (k == 6) = false := by simpa using h6
              have HR := Lib.hid (show rightO k f m n = false by simp [rightO, h1, h2, h3, h4, h5, h6])
              clear h1 h2 h3 h4 h5 h6
              go_enter Try.func28, Try.ntmps28
              go_wp2_with fail
              go_ret
              exact ⟨by rw [HR.out]; rfl, HK.out _⟩

set_option maxHeartbeats 4000000 in
theorem right46 (w : World) (k f m : Int) (a : Option Addr) (n c : Nat) : Calls Try.prog 46 #[.agg #[.int .i64 k, .int .i64 f, .int .i64 m, .slice a n c]] w fun e w' => e = .returned (.bool (rightO k f m n)) ∧ Kp (fun _ => False) w w' := by
  have hk : ∀ o, Kp (fun _ => False) w (w.alloc o) := fun o => (Kp.refl _ _).alloc o
  have HK := Lib.hid hk
  clear hk
  by_cases h1 : k = 1
  · subst h1
    go_enter Try.func46, Try.ntmps46
    go_wp2_with fail
    go_ret
    exact ⟨rfl, HK.out _⟩
  · by_cases h2 : k = 2
    · subst h2
      have HR := Lib.hid (show rightO 2 f m n = decide ((n : Int) ≤ 1024) by simp [rightO]; omega)
      clear h1
      go_enter Try.func46, Try.ntmps46
      go_wp2_with fail
      go_ret
      exact ⟨by rw [HR.out]; rfl, HK.out _⟩
    · by_cases h3 : k = 3
      · subst h3
        by_cases hm : m < 0
        · have hmd : decide (0 ≤ m) = false := decide_eq_false (by omega)
          by_cases hf : 0 ≤ f
          · have HR := Lib.hid (show rightO 3 f m n = false by simp [rightO]; omega)
            clear h1 h2
            go_enter Try.func46, Try.ntmps46
            go_wp2_with fail
            go_ret
            exact ⟨by rw [HR.out]; rfl, HK.out _⟩
          · have HR := Lib.hid (show rightO 3 f m n = false by simp [rightO]; omega)
            clear h1 h2
            go_enter Try.func46, Try.ntmps46
            go_wp2_with fail
            go_ret
            exact ⟨by rw [HR.out]; rfl, HK.out _⟩
        · by_cases hf : 0 ≤ f
          · have HR := Lib.hid (show rightO 3 f m n = true by simp [rightO]; omega)
            clear h1 h2
            go_enter Try.func46, Try.ntmps46
            go_wp2_with fail
            go_ret
            exact ⟨by rw [HR.out]; rfl, HK.out _⟩
          · have HR := Lib.hid (show rightO 3 f m n = false by simp [rightO]; omega)
            clear h1 h2
            go_enter Try.func46, Try.ntmps46
            go_wp2_with fail
            go_ret
            exact ⟨by rw [HR.out]; rfl, HK.out _⟩
      · by_cases h4 : k = 4
        · subst h4
          have HR := Lib.hid (show rightO 4 f m n = decide (0 ≤ f) by simp [rightO])
          clear h1 h2 h3
          go_enter Try.func46, Try.ntmps46
          go_wp2_with fail
          go_ret
          exact ⟨by rw [HR.out]; rfl, HK.out _⟩
        · have e1 : (k == 1) = false := by simpa using h1
          have e2 : (k == 2) = false := by simpa using h2
          have e3 : (k == 3) = false := by simpa using h3
          have e4 : (k == 4) = false := by simpa using h4
          by_cases h5 : k = 5
          · subst h5
            by_cases hf : 0 ≤ f
            · have HR := Lib.hid (show rightO 5 f m n = decide (f < 16) by simp [rightO, hf])
              clear h1 h2 h3 h4 e1 e2 e3 e4
              go_enter Try.func46, Try.ntmps46
              go_wp2_with fail
              go_ret
              exact ⟨by rw [HR.out]; rfl, HK.out _⟩
            · have HR := Lib.hid (show rightO 5 f m n = false by simp [rightO]; omega)
              clear h1 h2 h3 h4 e1 e2 e3 e4
              go_enter Try.func46, Try.ntmps46
              go_wp2_with fail
              go_ret
              exact ⟨by rw [HR.out]; rfl, HK.out _⟩
          · by_cases h6 : k = 6
            · subst h6
              by_cases hf : 0 ≤ f
              · have HR := Lib.hid (show rightO 6 f m n = decide (f < 16) by simp [rightO, hf])
                clear h1 h2 h3 h4 h5 e1 e2 e3 e4
                go_enter Try.func46, Try.ntmps46
                go_wp2_with fail
                go_ret
                exact ⟨by rw [HR.out]; rfl, HK.out _⟩
              · have HR := Lib.hid (show rightO 6 f m n = false by simp [rightO]; omega)
                clear h1 h2 h3 h4 h5 e1 e2 e3 e4
                go_enter Try.func46, Try.ntmps46
                go_wp2_with fail
                go_ret
                exact ⟨by rw [HR.out]; rfl, HK.out _⟩
            · have e5 : (k == 5) = false := by simpa using h5
              have e6 : (k == 6) = false := by simpa using h6
              have HR := Lib.hid (show rightO k f m n = false by simp [rightO, h1, h2, h3, h4, h5, h6])
              clear h1 h2 h3 h4 h5 h6
              go_enter Try.func46, Try.ntmps46
              go_wp2_with fail
              go_ret
              exact ⟨by rw [HR.out]; rfl, HK.out _⟩
end Go.Proofs.Ytjhefbkigmamfaa
