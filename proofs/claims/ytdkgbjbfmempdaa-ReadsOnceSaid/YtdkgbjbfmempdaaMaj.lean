/-
  ReadsMajority, without the program: the servers 0 .. s-1, those who said yes among them. No condition.
-/
import Derived.Test.YtdkgbjbfmempdaaMd
namespace Go.Proofs.Ytdkgbjbfmempdaa
open Go.RowKit
set_option linter.unusedVariables false

/-- The first k servers. -/
def upto (k : Nat) : List Int := (List.range k).map fun j : Nat => (j : Int)
theorem upto_succ (k : Nat) : upto (k + 1) = upto k ++ [(k : Int)] := by simp [upto, List.range_succ]
theorem upto_length (k : Nat) : (upto k).length = k := by simp [upto]
theorem mem_upto (k : Nat) (z : Int) : z ∈ upto k ↔ ∃ j, j < k ∧ z = (j : Int) := by
  simp only [upto, List.mem_map, List.mem_range]
  constructor
  · rintro ⟨j, h, e⟩
    exact ⟨j, h, e.symm⟩
  · rintro ⟨j, h, e⟩
    exact ⟨j, h, e.symm⟩
theorem once_upto : ∀ k, once (upto k) = upto k
  | 0 => rfl
  | k + 1 => by
    rw [upto_succ, once_snoc, once_upto k]
    unfold addm
    rw [if_neg]
    rw [mem_upto]
    rintro ⟨j, h, e⟩
    omega
theorem mem_yesK (me : Int) (h : Nat → Int) (rd z : Int) : ∀ k, z ∈ yesK me h rd k ↔ z = me ∨ ∃ j, j < k ∧ z = (j : Int) ∧ rd ≤ h j
  | 0 => by simp [yesK]
  | k + 1 => by
    unfold yesK
    rw [List.mem_append, mem_yesK me h rd z k]
    constructor
    · rintro ((e | ⟨j, h1, h2, h3⟩) | e)
      · exact .inl e
      · exact .inr ⟨j, by omega, h2, h3⟩
      · split at e
        · rename_i hr
          simp at e
          exact .inr ⟨k, by omega, e, hr⟩
        · simp at e
    · rintro (e | ⟨j, h1, h2, h3⟩)
      · exact .inl (.inl e)
      · by_cases hj : j = k
        · subst hj
          rw [if_pos h3]
          exact .inr (by simp [h2])
        · exact .inl (.inr ⟨j, by omega, h2, h3⟩)
/-- How many of the first k are the leader or were heard. -/
def cN (M R : Int) (at_ : Nat → Int) : Nat → Nat
  | 0 => 0
  | k + 1 => cN M R at_ k + if (k : Int) = M ∨ R ≤ at_ k then 1 else 0
theorem cN_le (M R : Int) (at_ : Nat → Int) : ∀ k, cN M R at_ k ≤ k
  | 0 => Nat.le_refl _
  | k + 1 => by
    have := cN_le M R at_ k
    unfold cN
    split <;> omega
theorem cnt_upto (M R : Int) (at_ h : Nat → Int) (y : List Int) : ∀ k : Nat, (∀ j : Nat, j < k → ((j : Int) ∈ y ↔ ((j : Int) = M ∨ R ≤ at_ j))) → among (upto k) y = cN M R at_ k
  | 0, _ => rfl
  | k + 1, hy => by
    have ih := cnt_upto M R at_ h y k (fun j hj => hy j (by omega))
    have e := hy k (by omega)
    have ec : cN M R at_ (k + 1) = cN M R at_ k + if (k : Int) = M ∨ R ≤ at_ k then 1 else 0 := rfl
    unfold among at ih ⊢
    rw [upto_succ, List.countP_append, ih, ec]
    simp only [List.countP_cons, List.countP_nil]
    by_cases hk : (k : Int) = M ∨ R ≤ at_ k
    · rw [if_pos hk, if_pos (by simpa using e.2 hk)]
    · rw [if_neg hk, if_neg (by simpa using fun h => hk (e.1 h))]
/-- What the book has heard behind the first k. -/
def hsK (at_ : Nat → Int) (k : Nat) : Nat → Int := fun j => if j < k then at_ j else -1
theorem hsK_zero (at_ : Nat → Int) : hsK at_ 0 = mute := by
  funext j
  simp [hsK, mute]
theorem hsK_heard (at_ : Nat → Int) (k : Nat) (h : 0 ≤ at_ k) : hear (hsK at_ k) k (at_ k) = hsK at_ (k + 1) := by
  funext j
  unfold hear hsK
  by_cases hj : j = k
  · subst hj
    rw [if_pos rfl, if_neg (Nat.lt_irrefl _), if_pos (by omega)]
    omega
  · rw [if_neg hj]
    by_cases h1 : j < k
    · rw [if_pos h1, if_pos (by omega)]
    · rw [if_neg h1, if_neg (by omega)]
theorem hsK_skip (at_ : Nat → Int) (k : Nat) (h : at_ k = -1) : hsK at_ k = hsK at_ (k + 1) := by
  funext j
  unfold hsK
  by_cases hj : j = k
  · subst hj
    rw [if_neg (Nat.lt_irrefl _), if_pos (by omega), h]
  · by_cases h1 : j < k
    · rw [if_pos h1, if_pos (by omega)]
    · rw [if_neg h1, if_neg (by omega)]
theorem won_upto (M R : Int) (at_ : Nat → Int) (s : Nat) (hs : s ≤ 16) : won (upto s) (yes M (hsK at_ s) R) = decide (s < 2 * cN M R at_ s) := by
  unfold won cnt
  rw [once_upto, upto_length, cnt_upto M R at_ (hsK at_ s) _ s]
  intro j hj
  unfold yes
  rw [mem_yesK]
  constructor
  · rintro (e | ⟨i, h1, h2, h3⟩)
    · exact .inl e
    · obtain rfl : j = i := by omega
      unfold hsK at h3
      rw [if_pos hj] at h3
      exact .inr h3
  · rintro (e | e)
    · exact .inl e
    · exact .inr ⟨j, by omega, rfl, by unfold hsK; rw [if_pos hj]; exact e⟩
theorem told_one (x : Rd) (p : Rd → Bool) : (toldAll p [x]).length = if p x = true then 1 else 0 := by
  unfold toldAll
  by_cases h : p x = true
  · simp [h]
  · simp [h]
theorem ask_one (R : Int) (h : 0 ≤ R) : ask [] 1 9 R = (0, [⟨1, 9, R⟩]) := by
  unfold ask
  rw [if_neg (by omega), if_neg (by simp [ids]), if_neg (by simp)]
  rfl
end Go.Proofs.Ytdkgbjbfmempdaa
