/-
  ClientAll, without the program: the places that come round. No condition.
-/
import Derived.Test.YtjhefbkigmamfaaCw
import Derived.Test.YtjhefbkigmamfaaImar
namespace Go.Proofs.Ytjhefbkigmamfaa
open Go.RowKit
set_option linter.unusedVariables false

/-- Whom a client has asked behind c asks, from place a on. -/
def am (zs : List Int) (a c : Nat) : List (Int × Value) := (List.range c).map fun k => (zs.getD ((a + k + 1) % zs.length) 0, Value.bool true)
theorem am_length (zs : List Int) (a c : Nat) : (am zs a c).length = c := by simp [am]
theorem am_succ (zs : List Int) (a c : Nat) : am zs a (c + 1) = am zs a c ++ [(zs.getD ((a + c + 1) % zs.length) 0, .bool true)] := by simp [am, List.range_succ]
theorem rising_inj {zs : List Int} (h : Rising zs) : ∀ {i j : Nat}, i < j → j < zs.length → zs.getD i 0 < zs.getD j 0 := by
  intro i j hij hj
  induction j with
  | zero => omega
  | succ j ih =>
    have h1 := (h (j + 1) hj).2.2 (by omega)
    rw [show j + 1 - 1 = j by omega] at h1
    by_cases e : i = j
    · rw [e]; exact h1
    · have := ih (by omega) (by omega)
      omega
theorem am_new {zs : List Int} (h : Rising zs) (hn : 1 ≤ zs.length) (a c : Nat) (hc : c < zs.length) : zs.getD ((a + c + 1) % zs.length) 0 ∉ (am zs a c).map (·.1) := by
  intro hm
  simp only [am, List.map_map, List.mem_map, List.mem_range, Function.comp] at hm
  obtain ⟨k, hk, e⟩ := hm
  have h1 : (a + k + 1) % zs.length < zs.length := Nat.mod_lt _ hn
  have h2 : (a + c + 1) % zs.length < zs.length := Nat.mod_lt _ hn
  have he : (a + k + 1) % zs.length = (a + c + 1) % zs.length := by
    rcases Nat.lt_trichotomy ((a + k + 1) % zs.length) ((a + c + 1) % zs.length) with h' | h' | h'
    · have := rising_inj h h' h2; omega
    · exact h'
    · have := rising_inj h h' h1; omega
  have d1 := Nat.div_add_mod (a + k + 1) zs.length
  have d2 := Nat.div_add_mod (a + c + 1) zs.length
  rw [he] at d1
  generalize (a + k + 1) / zs.length = q1 at d1
  generalize (a + c + 1) / zs.length = q2 at d2
  by_cases hq : q1 + 1 ≤ q2
  · have := Nat.mul_le_mul_left zs.length hq
    rw [Nat.mul_add] at this
    omega
  · have := Nat.mul_le_mul_left zs.length (show q2 ≤ q1 by omega)
    omega
theorem am_put {zs : List Int} (h : Rising zs) (hn : 1 ≤ zs.length) (a c : Nat) (hc : c < zs.length) : putm (am zs a c) (zs.getD ((a + c + 1) % zs.length) 0) (.bool true) = am zs a (c + 1) := by
  rw [putm_new (am_new h hn a c hc), am_succ]
/-- The next tick: a whole patience has passed, or not. -/
theorem step_pass (P x : Nat) (hP : 1 ≤ P) : (x % P + 1 < P → (x + 1) % P = x % P + 1 ∧ (x + 1) / P = x / P) ∧ (¬ x % P + 1 < P → (x + 1) % P = 0 ∧ (x + 1) / P = x / P + 1) := by
  have h1 := Nat.div_add_mod x P
  have h2 := Nat.mod_lt x hP
  constructor
  · intro h
    have e : x + 1 = P * (x / P) + (x % P + 1) := by omega
    refine ⟨?_, ?_⟩
    · rw [e, Nat.mul_add_mod, Nat.mod_eq_of_lt h]
    · rw [e, Nat.mul_add_div hP, Nat.div_eq_of_lt h, Nat.add_zero]
  · intro h
    have e : x + 1 = P * (x / P + 1) := by rw [Nat.mul_add]; omega
    refine ⟨?_, ?_⟩
    · rw [e, Nat.mul_mod_right]
    · rw [e, Nat.mul_div_cancel_left _ hP]
theorem mod_next (a c n : Nat) : ((a + c) % n + 1) % n = (a + c + 1) % n := by rw [Nat.add_mod, Nat.mod_mod, ← Nat.add_mod]
theorem cnt_lt (P n p i : Nat) (hP : 1 ≤ P) (hp : p < P) (hi : i ≤ P * n) : (p + i) / P ≤ n := by
  have : (p + i) / P < n + 1 := (Nat.div_lt_iff_lt_mul hP).2 (by rw [Nat.add_mul, Nat.mul_comm n P]; omega)
  omega
theorem cnt_end (P n p : Nat) (hP : 1 ≤ P) (hp : p < P) : (p + P * n) / P = n := by
  rw [Nat.add_comm, Nat.mul_add_div hP, Nat.div_eq_of_lt hp, Nat.add_zero]
end Go.Proofs.Ytjhefbkigmamfaa
