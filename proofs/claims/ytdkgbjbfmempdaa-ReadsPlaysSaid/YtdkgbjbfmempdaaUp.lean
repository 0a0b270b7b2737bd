/-
  Those that wait in a book whose reads got their numbers in turn: rising, and less than the next number. And a remainder that is not negative. No condition.
-/
import Derived.Test.YtdkgbjbfmempdaaDf
import Derived.Test.YtdkgbjbfmempdaaAk
namespace Go.Proofs.Ytdkgbjbfmempdaa
open Go.RowKit
set_option linter.unusedVariables false

/-- The remainder, from nought on. -/
def md (z m : Int) : Int := (z.tmod m + m).tmod m
theorem md_lo (z m : Int) (h : 1 ≤ m) : 0 ≤ md z m := by
  have h1 : -m < z.tmod m := by
    have := Int.lt_tmod_of_pos z (show 0 < m by omega)
    omega
  exact Int.tmod_nonneg m (by omega)
theorem md_hi (z m : Int) (h : 1 ≤ m) : md z m < m := Int.tmod_lt_of_pos _ (by omega)
theorem md_in (z m : Int) (h : 1 ≤ m) (h2 : m ≤ 1000000) : IntKind.i64.wrap (z.tmod m + m) = z.tmod m + m := by
  have h1 : -m < z.tmod m := by
    have := Int.lt_tmod_of_pos z (show 0 < m by omega)
    omega
  have h2 : z.tmod m < m := Int.tmod_lt_of_pos _ (by omega)
  exact IntWalk.i64_in _ (by omega)

/-- Rising numbers, less than i. -/
structure Up (l : List Rd) (i : Nat) : Prop where
  up : (ids l).Pairwise (· < ·)
  lt : ∀ z ∈ ids l, z < (i : Int)
  le : l.length ≤ i
theorem up_nil : Up [] 0 := ⟨by simp [ids], by simp [ids], by simp⟩
theorem Up.mono {l : List Rd} {i j : Nat} (h : Up l i) (hj : i ≤ j) : Up l j := ⟨h.up, fun z hz => by have := h.lt z hz; omega, by have := h.le; omega⟩
theorem Up.keep {l : List Rd} {i : Nat} (h : Up l i) (p : Rd → Bool) : Up (keep p l) i := by
  refine ⟨?_, fun z hz => ?_, ?_⟩
  · exact List.Pairwise.sublist ((List.filter_sublist).map _) h.up
  · obtain ⟨r, hr, rfl⟩ := List.mem_map.1 hz
    exact h.lt _ (List.mem_map.2 ⟨r, (List.mem_filter.1 hr).1, rfl⟩)
  · exact Nat.le_trans (List.length_filter_le _ _) h.le
theorem Up.told {l : List Rd} {i : Nat} (h : Up l i) (p : Rd → Bool) : ((toldAll p l).map (·.1)).Pairwise (· < ·) ∧ (toldAll p l).length ≤ i := by
  refine ⟨?_, ?_⟩
  · unfold toldAll
    rw [List.map_map]
    exact List.Pairwise.sublist ((List.filter_sublist).map _) h.up
  · unfold toldAll
    rw [List.length_map]
    exact Nat.le_trans (List.length_filter_le _ _) h.le
theorem Up.ask {l : List Rd} {i : Nat} (h : Up l i) (hi : i < 90) (ix rd : Int) (h1 : 0 ≤ ix) (h2 : 0 ≤ rd) : ask l i ix rd = (0, l ++ [⟨i, ix, rd⟩]) ∧ Up (l ++ [⟨i, ix, rd⟩]) (i + 1) := by
  have hl := h.le
  refine ⟨?_, ?_, fun z hz => ?_, ?_⟩
  · unfold Ytdkgbjbfmempdaa.ask
    rw [if_neg (by omega), if_neg (fun hm => by have := h.lt _ hm; omega), if_neg (by omega)]
  · have e : ids (l ++ [⟨i, ix, rd⟩]) = ids l ++ [(i : Int)] := by simp [ids]
    rw [e, List.pairwise_append]
    exact ⟨h.up, by simp, fun a ha b hb => by simp at hb; subst hb; exact h.lt a ha⟩
  · have e : ids (l ++ [⟨i, ix, rd⟩]) = ids l ++ [(i : Int)] := by simp [ids]
    rw [e, List.mem_append] at hz
    rcases hz with hz | hz
    · have := h.lt z hz; omega
    · simp at hz; omega
  · simp; omega
theorem up_get {l : List Int} (h : l.Pairwise (· < ·)) (k : Nat) (hk : k + 1 < l.length) : l.getD k 0 < l.getD (k + 1) 0 := by
  rw [List.pairwise_iff_getElem] at h
  have := h k (k + 1) (by omega) hk (by omega)
  simpa [List.getD, List.getElem?_eq_getElem hk, List.getElem?_eq_getElem (show k < l.length by omega)] using this
end Go.Proofs.Ytdkgbjbfmempdaa
