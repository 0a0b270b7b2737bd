/-
  What must come ('knows'), walked once: true.
-/
import Derived.Test.YthpplmplfamjhaaAns
namespace Go.Proofs.Ythpplmplfamjhaa
open Go.RowKit
set_option linter.unusedVariables false

theorem guard26 (op : BinOp) (x y : Operand) (A B : Array Value) (w : World) : (eqGuard op 26 x y (.agg A) (.agg B)).run Try.prog w = .ok () w :=
  run_eqGuard_agg w op 26 x y A B (by kernel_rfl)
theorem eq26 (T V i l T' V' i' l' : Int) (fr fr' : Bool) (w : World) : (binOp .eql 26 (.agg #[.int .i64 T, .int .i64 V, .int .i64 i, .int .i64 l, .bool fr]) (.agg #[.int .i64 T', .int .i64 V', .int .i64 i', .int .i64 l', .bool fr'])).run Try.prog w =
    .ok (.bool (decide (T = T' ∧ V = V' ∧ i = i' ∧ l = l' ∧ fr = fr'))) w := by
  go_simp
  by_cases h1 : T = T' <;> by_cases h2 : V = V' <;> by_cases h3 : i = i' <;> by_cases h4 : l = l' <;> by_cases h5 : fr = fr' <;> simp [h1, h2, h3, h4, h5]
theorem neq26 (T V i l T' V' i' l' : Int) (fr fr' : Bool) (w : World) : (binOp .neq 26 (.agg #[.int .i64 T, .int .i64 V, .int .i64 i, .int .i64 l, .bool fr]) (.agg #[.int .i64 T', .int .i64 V', .int .i64 i', .int .i64 l', .bool fr'])).run Try.prog w =
    .ok (.bool (!decide (T = T' ∧ V = V' ∧ i = i' ∧ l = l' ∧ fr = fr'))) w := by
  go_simp
  by_cases h1 : T = T' <;> by_cases h2 : V = V' <;> by_cases h3 : i = i' <;> by_cases h4 : l = l' <;> by_cases h5 : fr = fr' <;> simp [h1, h2, h3, h4, h5]

theorem ints_block {w : World} {b : Nat} {t : TypeId} {zs : List Int} (h : w.heap[b]? = some (.cells (zs.map (Value.int .i64)).toArray t (0, 0))) : Ints w (some ⟨b, 0, none⟩) zs := by
  intro i hi
  refine ⟨b, 0, rfl, ?_⟩
  rw [Nat.zero_add]
  refine cell_of h i ?_
  simp [List.getD, hi]

theorem heap_at {w : World} {k : Nat} (o : Obj) (h : k = w.heap.size) : (w.alloc o).heap[k]? = some o := by
  subst h
  exact heap_new w o
theorem won_yes : won [1, 2, 3] [1, 3] = true := by decide
theorem won_no : won [1, 2] [1] = false := by decide
theorem ans_one : vAns (ans 1 0 0 0 true 2 0 0 0) 0 0 true = .tuple #[.agg #[.int .i64 1, .int .i64 0, .int .i64 0, .int .i64 0, .bool true], .bool false, .bool true] := by
  simp [ans, vAns, vMe]
theorem ans_two : vAns (ans 1 (-1) 0 0 false 1 3 0 0) 0 0 false = .tuple #[.agg #[.int .i64 1, .int .i64 3, .int .i64 0, .int .i64 0, .bool false], .bool true, .bool false] := by
  simp [ans, vAns, vMe, upTo]

theorem knows_any (w : World) : Calls Try.prog 15 #[] w fun e w' => e = .returned (.bool true) ∧ Kp (fun _ => False) w w' := by
  go_enter Try.func15, Try.ntmps15
  go_wp2_with fail
  refine (answer_prog 1 0 0 0 true 2 0 0 0 w).mono ?_
  rintro e w1 ⟨rfl, hw1⟩
  have hk1 : Kp (fun _ => False) w w1 := hw1 ▸ ansW_kp _ _ _ _ _ _ _ _ _ _ _
  clear hw1
  rw [ans_one]
  go_wp2_with fail
  refine (answer_prog 1 (-1) 0 0 false 1 3 0 0 _).mono ?_
  rintro e w2 ⟨rfl, hw2⟩
  have hk2 := ansW_kp (w1.alloc (.cells #[.int .i64 1, .int .i64 0, .int .i64 0, .int .i64 0, .bool true] 26)) (ans 1 (-1) 0 0 false 1 3 0 0) 0 0 false 1 3 0 0 26 30
  rw [hw2] at hk2
  clear hw2
  rw [ans_two]
  have hK2 : Kp (fun _ => False) w w2 := ((hk1.trans ((Kp.refl _ _).alloc _)).trans hk2)
  clear hk1 hk2
  go_wp2_with fail
  refine (won_any (zs := [1, 2, 3]) (ys := [1, 3]) (ints_block (t := 3) (heap_old _ (heap_at _ (by simp)))) (ints_block (t := 3) (heap_at _ (by simp))) (by decide) (by decide) 3 2).mono ?_
  rintro e w3 ⟨rfl, hk3⟩
  rw [won_yes]
  have hK3 : Kp (fun _ => False) w w3 := (((hK2.alloc _).alloc _).alloc _).trans hk3
  clear hK2 hk3
  go_wp2_with fail
  refine (won_any (zs := [1, 2]) (ys := [1]) (ints_block (t := 3) (heap_old _ (heap_at _ (by simp)))) (ints_block (t := 3) (heap_at _ (by simp))) (by decide) (by decide) 2 1).mono ?_
  rintro e w4 ⟨rfl, hk4⟩
  rw [won_no]
  have hK4 : Kp (fun _ => False) w w4 := ((hK3.alloc _).alloc _).trans hk4
  clear hK3 hk4
  go_wp2
  go_ret
  exact ⟨rfl, hK4⟩
end Go.Proofs.Ythpplmplfamjhaa
