/-
  Small laws on lists of ints, votes and lists of the call's own. No condition.
-/
import Derived.Test.YtdkgbjbfmempdaaIl
import Derived.Test.YtdkgbjbfmempdaaApp
namespace Go.Proofs.Ytdkgbjbfmempdaa
open Go.ChangeShapes Go.WideShapes Go.ChangeAt Go.RowKit Go.Deep
set_option linter.unusedVariables false

theorem among_more (y : List Int) (o : Int) : ∀ l : List Int, l.Nodup → among l y ≤ among l (y ++ [o]) ∧ among l (y ++ [o]) ≤ among l y + (if o ∈ l then 1 else 0)
  | [], _ => by simp [among]
  | x :: l, h => by
    simp only [List.nodup_cons] at h
    have ih := among_more y o l h.2
    rw [among_cons, among_cons]
    by_cases h1 : x ∈ y
    · have h2 : x ∈ y ++ [o] := by simp [h1]
      rw [if_pos h1, if_pos h2]
      have : (if o ∈ l then 1 else 0) ≤ (if o ∈ x :: l then 1 else 0) := by
        by_cases h3 : o ∈ l <;> simp [h3]
      omega
    · by_cases h2 : x = o
      · subst h2
        have h3 : x ∈ y ++ [x] := by simp
        rw [if_neg h1, if_pos h3]
        have h4 : (if x ∈ l then 1 else 0) = 0 := if_neg h.1
        have h5 : (if x ∈ x :: l then 1 else 0) = 1 := if_pos (List.mem_cons_self ..)
        omega
      · have h3 : x ∉ y ++ [o] := by simp [h1, h2]
        rw [if_neg h1, if_neg h3]
        have : (if o ∈ l then 1 else 0) ≤ (if o ∈ x :: l then 1 else 0) := by
          by_cases h3 : o ∈ l <;> simp [h3]
        omega
theorem cnt_more (s y : List Int) (o : Int) : cnt s y ≤ cnt s (y ++ [o]) ∧ cnt s (y ++ [o]) ≤ cnt s y + 1 := by
  have h := among_more y o (once s) (once_nodup s)
  unfold cnt
  split at h <;> omega
theorem won_more {s y : List Int} {o : Int} (h : won s y = true) : won s (y ++ [o]) = true := by
  unfold won at h ⊢
  have h1 := of_decide_eq_true h
  have := (cnt_more s y o).1
  exact decide_eq_true (by omega)
theorem won_self (s : List Int) : won s s = decide (0 < s.length) := by
  have h : cnt s s = (once s).length := by
    unfold cnt among
    rw [List.countP_eq_length]
    intro x hx
    simpa using (mem_once s x).1 hx
  unfold won
  rw [h, decide_eq_decide]
  cases s with
  | nil => simp [once]
  | cons x r =>
    have : x ∈ once (x :: r) := (mem_once _ _).2 (List.mem_cons_self ..)
    have := List.length_pos_of_mem this
    simp only [List.length_cons]
    omega
theorem won_nil (s : List Int) : won s [] = false := by
  have h : cnt s [] = 0 := by unfold cnt among; simp
  unfold won
  rw [h]
  simp

theorem Owns.ints {w : World} {B n cap : Nat} {a : Option Addr} {zs : List Int} (h : Owns w B 3 1 a n cap (zs.map (Value.int .i64))) : Ints w a zs := by
  intro i hi
  obtain ⟨g, e, hc⟩ := Owns.cell h (j := i) (u := .int .i64 (zs.getD i 0)) (by simp [List.getD, hi])
  exact ⟨g, 0, e, by rw [Nat.zero_add]; exact hc⟩
theorem Ints.news {w : World} {a : Option Addr} {zs : List Int} (h : Ints w a zs) : ∀ j u, (zs.map (Value.int .i64))[j]? = some u → ∃ ad, a = some ad ∧ w.cell? (ad.add j) = some u := by
  intro j u hu
  rw [List.getElem?_map, Option.map_eq_some_iff] at hu
  obtain ⟨z, hz, rfl⟩ := hu
  have hj : j < zs.length := (List.getElem?_eq_some_iff.1 hz).1
  obtain ⟨b, off, e, hc⟩ := h j hj
  refine ⟨_, e, ?_⟩
  rw [add_plain, hc]
  simp [List.getD, hz]
theorem one_int (zs : List Int) : ∀ u ∈ zs.map (Value.int .i64), u.oneCell' = true := by
  intro u hu
  obtain ⟨z, _, rfl⟩ := List.mem_map.1 hu
  rfl
theorem info3 : (Try.prog.info? 3).map (fun i => (i.zero, i.size, i.bytes)) = some (some (.int .i64 0), 1, 8) := by kernel_rfl

theorem mem_take_succ (l : List Int) (k : Nat) (h : k < l.length) (z : Int) : decide (z ∈ l.take (k + 1)) = (decide (z ∈ l.take k) || (l.getD k 0 == z)) := by
  rw [List.take_succ_eq_append_getElem h, Bool.eq_iff_iff]
  simp only [List.mem_append, List.mem_singleton, decide_eq_true_eq, Bool.or_eq_true, beq_iff_eq]
  simp only [List.getD, List.getElem?_eq_getElem h, Option.getD_some]
  constructor
  · rintro (h1 | h1)
    · exact .inl h1
    · exact .inr h1.symm
  · rintro (h1 | h1)
    · exact .inl h1
    · exact .inr h1.symm

end Go.Proofs.Ytdkgbjbfmempdaa
