/-
  message.caught, fields, right and bytes, each walked once.
-/
import Derived.Test.YtecohkoekifeiaaGreatDoorXg
import Derived.Defers
import Derived.Recover
import Derived.Laws.Pointers
import Derived.Test.YtecohkoekifeiaaGreatDoorXd
set_option linter.all false
namespace Go.Proofs.YtecohkoekifeiaaGreatDoor
open Go.ChangeShapes Go.WideShapes Go.ChangeAt Go.RowKit
set_option linter.unusedVariables false
set_option linter.unusedSimpArgs false

@[local go_sem] theorem as25 (v : Value) (w : World) : (Instr.typeAssert (.iface 25 v) 20 25 false).run Tryz.prog w = .ok v w := by kernel_rfl

theorem caught32_idle (p q : Addr) (w : World) :
    CallsD Tryz.prog 32 #[.pointer (some p), .pointer (some q)] .returning w fun e u' w' => e = .returned (.tuple #[]) ∧ u' = .returning ∧ w' = w := by
  refine callsD_of_wpS Tryz.func32 rfl fun c₀ cs hu => ?_
  apply wpS_seq
  apply wpS_region
  simp [wpOpsS, go_sem, recoverD, hu, Tryz.ntmps32, Exit.thenS]
  apply wpS_seq
  apply wpS_region
  simp [wpOpsS, go_sem, recoverD, hu, Tryz.ntmps32, Exit.thenS]
  refine wpS_cond (t := false) (by simp [Act.eval, Array.replicate]) ?_
  simp only [Bool.false_eq_true, if_false]
  refine wpS_of_wp (wp_skip ?_)
  cases c₀
  simp_all [bodyPostS, results, Tryz.results32]

set_option maxHeartbeats 1600000 in
theorem caught32_panics (p q : Addr) (n m : Int) (x : Value) (older : List PanicEntry) (w : World) (hc : w.cell? p = some x) (hz : w.frozen? p = false) (hd : w.cell? q = some (.int .i64 m)) (hy : w.frozen? q = false) (hpq : p.block ≠ q.block) :
    CallsD Tryz.prog 32 #[.pointer (some p), .pointer (some q)] (.panicking ({ v := .iface 25 (.int .i64 n), recovered := false } :: older)) w fun e u' w' =>
      e = .returned (.tuple #[]) ∧ u' = .panicking ({ v := .iface 25 (.int .i64 n), recovered := true } :: older) ∧ w' = ((w.setCell p (.slice none 0 0)).setCell q (.int .i64 n)).drew := by
  refine callsD_of_wpS Tryz.func32 rfl fun c₀ cs hu => ?_
  apply wpS_seq
  apply wpS_region
  simp [wpOpsS, go_sem, recoverD, hu, Tryz.ntmps32, Exit.thenS]
  apply wpS_seq
  apply wpS_region
  simp [wpOpsS, go_sem, recoverD, hu, Tryz.ntmps32, Exit.thenS]
  refine wpS_cond (t := true) (by simp [Act.eval, Array.replicate]) ?_
  simp only [if_true]
  refine wpS_of_wp ?_
  simp only [Array.replicate_succ, Array.replicate_zero, List.push_toArray, List.append_toArray, List.nil_append, List.cons_append, List.setIfInBounds_toArray, List.set_cons_zero, List.set_cons_succ]
  have hcd : w.drew.cell? p = some x := hc
  have hdd : w.drew.cell? q = some (.int .i64 m) := hd
  have hd2 : (w.setCell p (.slice none 0 0)).drew.cell? q = some (.int .i64 m) := (World.cell?_setCell_far w p q _ hpq).trans hd
  go_wp2
  go_region
  refine ⟨rfl, _, rfl, .tuple #[], ?_, rfl, rfl, rfl⟩
  simp [results, Tryz.results32]

theorem caught28_idle (p q : Addr) (w : World) :
    CallsD Tryz.prog 28 #[.pointer (some p), .pointer (some q)] .returning w fun e u' w' => e = .returned (.tuple #[]) ∧ u' = .returning ∧ w' = w := by
  refine callsD_of_wpS Tryz.func28 rfl fun c₀ cs hu => ?_
  apply wpS_seq
  apply wpS_region
  simp [wpOpsS, go_sem, recoverD, hu, Tryz.ntmps28, Exit.thenS]
  apply wpS_seq
  apply wpS_region
  simp [wpOpsS, go_sem, recoverD, hu, Tryz.ntmps28, Exit.thenS]
  refine wpS_cond (t := false) (by simp [Act.eval, Array.replicate]) ?_
  simp only [Bool.false_eq_true, if_false]
  refine wpS_of_wp (wp_skip ?_)
  cases c₀
  simp_all [bodyPostS, results, Tryz.results28]

/-- No message. -/
def noMsg : Array Value := #[.int .i64 0, .int .i64 0, .int .i64 0, .int .i64 0, .int .i64 0, .int .i64 0, .int .i64 0, .int .i64 0, .bool false, .slice none 0 0, .slice none 0 0, .slice none 0 0]

theorem set12 {w : World} {b : Nat} {x0 x1 x2 x3 x4 x5 x6 x7 x8 x9 x10 x11 y0 y1 y2 y3 y4 y5 y6 y7 y8 y9 y10 y11 : Value} {ty : TypeId} (h : w.heap[b]? = some (.cells #[x0, x1, x2, x3, x4, x5, x6, x7, x8, x9, x10, x11] ty (0, 0))) :
    ((((((((((((w.setCell ⟨b, 0, none⟩ y0).setCell ⟨b, 1, none⟩ y1).setCell ⟨b, 2, none⟩ y2).setCell ⟨b, 3, none⟩ y3).setCell ⟨b, 4, none⟩ y4).setCell ⟨b, 5, none⟩ y5).setCell ⟨b, 6, none⟩ y6).setCell ⟨b, 7, none⟩ y7).setCell ⟨b, 8, none⟩ y8).setCell ⟨b, 9, none⟩ y9).setCell ⟨b, 10, none⟩ y10).setCell ⟨b, 11, none⟩ y11).heap[b]? = some (.cells #[y0, y1, y2, y3, y4, y5, y6, y7, y8, y9, y10, y11] ty (0, 0)) := by
  have := heap_set (heap_set (heap_set (heap_set (heap_set (heap_set (heap_set (heap_set (heap_set (heap_set (heap_set (heap_set (h) 0 y0) 1 y1) 2 y2) 3 y3) 4 y4) 5 y5) 6 y6) 7 y7) 8 y8) 9 y9) 10 y10) 11 y11
  simpa using this
theorem kp12 {w : World} {b : Nat} {y0 y1 y2 y3 y4 y5 y6 y7 y8 y9 y10 y11 : Value} : Kp (fun k => k = b) w ((((((((((((w.setCell ⟨b, 0, none⟩ y0).setCell ⟨b, 1, none⟩ y1).setCell ⟨b, 2, none⟩ y2).setCell ⟨b, 3, none⟩ y3).setCell ⟨b, 4, none⟩ y4).setCell ⟨b, 5, none⟩ y5).setCell ⟨b, 6, none⟩ y6).setCell ⟨b, 7, none⟩ y7).setCell ⟨b, 8, none⟩ y8).setCell ⟨b, 9, none⟩ y9).setCell ⟨b, 10, none⟩ y10).setCell ⟨b, 11, none⟩ y11) := by
  exact (((((((((((((Kp.refl (fun k => k = b) w).setCell (p := ⟨b, 0, none⟩) (.inl rfl) y0).setCell (p := ⟨b, 1, none⟩) (.inl rfl) y1).setCell (p := ⟨b, 2, none⟩) (.inl rfl) y2).setCell (p := ⟨b, 3, none⟩) (.inl rfl) y3).setCell (p := ⟨b, 4, none⟩) (.inl rfl) y4).setCell (p := ⟨b, 5, none⟩) (.inl rfl) y5).setCell (p := ⟨b, 6, none⟩) (.inl rfl) y6).setCell (p := ⟨b, 7, none⟩) (.inl rfl) y7).setCell (p := ⟨b, 8, none⟩) (.inl rfl) y8).setCell (p := ⟨b, 9, none⟩) (.inl rfl) y9).setCell (p := ⟨b, 10, none⟩) (.inl rfl) y10).setCell (p := ⟨b, 11, none⟩) (.inl rfl) y11)

set_option maxRecDepth 100000 in
set_option maxHeartbeats 4000000 in
theorem caught28_panics (p q : Nat) (n m : Int) (x0 x1 x2 x3 x4 x5 x6 x7 x8 x9 x10 x11 : Value) (older : List PanicEntry) (w : World) (hp : w.heap[p]? = some (.cells #[x0, x1, x2, x3, x4, x5, x6, x7, x8, x9, x10, x11] 37 (0, 0))) (hq : w.heap[q]? = some (.cells #[.int .i64 m] 25 (0, 0))) (hpq : p ≠ q) :
    CallsD Tryz.prog 28 #[.pointer (some ⟨p, 0, none⟩), .pointer (some ⟨q, 0, none⟩)] (.panicking ({ v := .iface 25 (.int .i64 n), recovered := false } :: older)) w fun e u' w' =>
      e = .returned (.tuple #[]) ∧ u' = .panicking ({ v := .iface 25 (.int .i64 n), recovered := true } :: older) ∧ w'.heap[p]? = some (.cells noMsg 37 (0, 0)) ∧ w'.heap[q]? = some (.cells #[.int .i64 n] 25 (0, 0)) ∧ Kp (fun k => k = p ∨ k = q) w w' := by
  refine callsD_of_wpS Tryz.func28 rfl fun c₀ cs hu => ?_
  apply wpS_seq
  apply wpS_region
  simp [wpOpsS, go_sem, recoverD, hu, Tryz.ntmps28, Exit.thenS]
  apply wpS_seq
  apply wpS_region
  simp [wpOpsS, go_sem, recoverD, hu, Tryz.ntmps28, Exit.thenS]
  refine wpS_cond (t := true) (by simp [Act.eval, Array.replicate]) ?_
  simp only [if_true]
  refine wpS_of_wp ?_
  simp only [Array.replicate_succ, Array.replicate_zero, List.push_toArray, List.append_toArray, List.nil_append, List.cons_append, List.setIfInBounds_toArray, List.set_cons_zero, List.set_cons_succ]
  go_wp2
  obtain ⟨V, hV⟩ : ∃ V, V = (w.alloc (.cells noMsg 37)).drew := ⟨_, rfl⟩
  have kV : Kp (fun _ => False) w V := by rw [hV]; exact ((Kp.refl _ _).alloc _).drew
  have aV : V.heap[w.heap.size]? = some (.cells #[.int .i64 0, .int .i64 0, .int .i64 0, .int .i64 0, .int .i64 0, .int .i64 0, .int .i64 0, .int .i64 0, .bool false, .slice none 0 0, .slice none 0 0, .slice none 0 0] 37 (0, 0)) := by rw [hV]; exact heap_new w _
  refine wp_region_held_drew (S := fun _ => True) (by kernel_rfl) trivial (fun _ => ?_)
  change wpAnyH _ _ _ _ _ _ _ _ (w.alloc (.cells noMsg 37)).drew
  rw [← hV]
  have pV := kV.heap hp (fun h => h)
  have qV := kV.heap hq (fun h => h)
  have cp0 := cell_of pV 0 (v := x0) rfl
  have fp0 := free_of pV 0
  have ca0 := cell_of aV 0 (v := .int .i64 0) rfl
  have cp1 := cell_of pV 1 (v := x1) rfl
  have fp1 := free_of pV 1
  have ca1 := cell_of aV 1 (v := .int .i64 0) rfl
  have cp2 := cell_of pV 2 (v := x2) rfl
  have fp2 := free_of pV 2
  have ca2 := cell_of aV 2 (v := .int .i64 0) rfl
  have cp3 := cell_of pV 3 (v := x3) rfl
  have fp3 := free_of pV 3
  have ca3 := cell_of aV 3 (v := .int .i64 0) rfl
  have cp4 := cell_of pV 4 (v := x4) rfl
  have fp4 := free_of pV 4
  have ca4 := cell_of aV 4 (v := .int .i64 0) rfl
  have cp5 := cell_of pV 5 (v := x5) rfl
  have fp5 := free_of pV 5
  have ca5 := cell_of aV 5 (v := .int .i64 0) rfl
  have cp6 := cell_of pV 6 (v := x6) rfl
  have fp6 := free_of pV 6
  have ca6 := cell_of aV 6 (v := .int .i64 0) rfl
  have cp7 := cell_of pV 7 (v := x7) rfl
  have fp7 := free_of pV 7
  have ca7 := cell_of aV 7 (v := .int .i64 0) rfl
  have cp8 := cell_of pV 8 (v := x8) rfl
  have fp8 := free_of pV 8
  have ca8 := cell_of aV 8 (v := .bool false) rfl
  have cp9 := cell_of pV 9 (v := x9) rfl
  have fp9 := free_of pV 9
  have ca9 := cell_of aV 9 (v := .slice none 0 0) rfl
  have cp10 := cell_of pV 10 (v := x10) rfl
  have fp10 := free_of pV 10
  have ca10 := cell_of aV 10 (v := .slice none 0 0) rfl
  have cp11 := cell_of pV 11 (v := x11) rfl
  have fp11 := free_of pV 11
  have ca11 := cell_of aV 11 (v := .slice none 0 0) rfl
  have cq := cell_of qV 0 (v := .int .i64 m) rfl
  have fq := free_of qV 0
  have KV := Lib.hid kV
  have PV := Lib.hid pV
  have QV := Lib.hid qV
  clear kV aV pV qV hp hq hV
  refine wpAnyH_take (i := 0) (v := ?_) rfl (by kernel_rfl) (by kernel_rfl) (by kernel_rfl) (fun _ _ _ h => h) (Or.inl ⟨by rfl, ?_⟩) trivial ?_
  rotate_left
  · intro w hSw
    go_simp
    try with_reducible rfl
  try simp only [Act.put, List.getElem_toArray, List.getElem_cons_zero, List.getElem_cons_succ, List.setIfInBounds_toArray, List.set_cons_zero, List.set_cons_succ]
  refine wpAnyH_take (i := 1) (v := ?_) rfl (by kernel_rfl) (by kernel_rfl) (by kernel_rfl) (fun _ _ _ h => h) (Or.inl ⟨by rfl, ?_⟩) trivial ?_
  rotate_left
  · intro w hSw
    go_simp
    try with_reducible rfl
  try simp only [Act.put, List.getElem_toArray, List.getElem_cons_zero, List.getElem_cons_succ, List.setIfInBounds_toArray, List.set_cons_zero, List.set_cons_succ]
  refine wpAnyH_take (i := 3) (v := ?_) rfl (by kernel_rfl) (by kernel_rfl) (by kernel_rfl) (fun _ _ _ h => h) (Or.inl ⟨by rfl, ?_⟩) trivial ?_
  rotate_left
  · intro w hSw
    go_simp
    try with_reducible rfl
  try simp only [Act.put, List.getElem_toArray, List.getElem_cons_zero, List.getElem_cons_succ, List.setIfInBounds_toArray, List.set_cons_zero, List.set_cons_succ]
  refine wpAnyH_take (i := 4) (v := ?_) rfl (by kernel_rfl) (by kernel_rfl) (by kernel_rfl) (fun _ _ _ h => h) (Or.inl ⟨by rfl, ?_⟩) trivial ?_
  rotate_left
  · intro w hSw
    go_simp
    try with_reducible rfl
  try simp only [Act.put, List.getElem_toArray, List.getElem_cons_zero, List.getElem_cons_succ, List.setIfInBounds_toArray, List.set_cons_zero, List.set_cons_succ]
  refine wpAnyH_ready (rs := [2]) (by kernel_rfl) (by simp) ?_
  refine AllReadyH.cons rfl (fun K hK => ?_) (AllReadyH.nil)
  go_simp
  refine hK.out _ _ trivial (fun _ => ?_)
  clear hK K
  try simp only [Act.put, List.getElem_toArray, List.getElem_cons_zero, List.getElem_cons_succ, List.setIfInBounds_toArray, List.set_cons_zero, List.set_cons_succ]
  refine wpAnyH_take (i := 5) (v := ?_) rfl (by kernel_rfl) (by kernel_rfl) (by kernel_rfl) (fun _ _ _ h => h) (Or.inl ⟨by rfl, ?_⟩) trivial ?_
  rotate_left
  · intro w hSw
    go_simp
    try with_reducible rfl
  try simp only [Act.put, List.getElem_toArray, List.getElem_cons_zero, List.getElem_cons_succ, List.setIfInBounds_toArray, List.set_cons_zero, List.set_cons_succ]
  refine wpAnyH_ready (rs := [6]) (by kernel_rfl) (by simp) ?_
  refine AllReadyH.cons rfl (fun K hK => ?_) (AllReadyH.nil)
  go_simp
  refine hK.out _ _ trivial (fun _ => ?_)
  clear hK K
  try simp only [Act.put, List.getElem_toArray, List.getElem_cons_zero, List.getElem_cons_succ, List.setIfInBounds_toArray, List.set_cons_zero, List.set_cons_succ]
  refine wpAnyH_take (i := 7) (v := ?_) rfl (by kernel_rfl) (by kernel_rfl) (by kernel_rfl) (fun _ _ _ h => h) (Or.inl ⟨by rfl, ?_⟩) trivial ?_
  rotate_left
  · intro w hSw
    go_simp
    try with_reducible rfl
  try simp only [Act.put, List.getElem_toArray, List.getElem_cons_zero, List.getElem_cons_succ, List.setIfInBounds_toArray, List.set_cons_zero, List.set_cons_succ]
  refine wpAnyH_ready (rs := [8]) (by kernel_rfl) (by simp) ?_
  refine AllReadyH.cons rfl (fun K hK => ?_) (AllReadyH.nil)
  go_simp
  refine hK.out _ _ trivial (fun _ => ?_)
  clear hK K
  try simp only [Act.put, List.getElem_toArray, List.getElem_cons_zero, List.getElem_cons_succ, List.setIfInBounds_toArray, List.set_cons_zero, List.set_cons_succ]
  refine wpAnyH_done (by kernel_rfl) ?_ _
  have hP := set12 (y0 := .int .i64 0) (y1 := .int .i64 0) (y2 := .int .i64 0) (y3 := .int .i64 0) (y4 := .int .i64 0) (y5 := .int .i64 0) (y6 := .int .i64 0) (y7 := .int .i64 0) (y8 := .bool false) (y9 := .slice none 0 0) (y10 := .slice none 0 0) (y11 := .slice none 0 0) PV.out
  have k12 := kp12 (w := V) (b := p) (y0 := .int .i64 0) (y1 := .int .i64 0) (y2 := .int .i64 0) (y3 := .int .i64 0) (y4 := .int .i64 0) (y5 := .int .i64 0) (y6 := .int .i64 0) (y7 := .int .i64 0) (y8 := .bool false) (y9 := .slice none 0 0) (y10 := .slice none 0 0) (y11 := .slice none 0 0)
  have hQ := k12.heap QV.out (fun e => hpq e.symm)
  refine ⟨rfl, _, rfl, .tuple #[], by simp [results, Tryz.results28], rfl, rfl, heap_set_other ⟨q, 0, none⟩ _ hP hpq, heap_set hQ 0 _, ?_⟩
  exact ((KV.out.mono (S' := fun k => k = p ∨ k = q) (fun _ _ h => h.elim)).andThen k12 (fun _ _ h => .inl h)).setCell (p := ⟨q, 0, none⟩) (.inl (.inr rfl)) _
end Go.Proofs.YtecohkoekifeiaaGreatDoor
namespace Go.Proofs.YtecohkoekifeiaaGreatDoor
open Go.ChangeShapes Go.WideShapes Go.ChangeAt Go.RowKit
set_option linter.unusedVariables false
set_option linter.unusedSimpArgs false

/-- The eight numbers' addresses. -/
def ptrs (b : Nat) : Array Value := #[.pointer (some ⟨b, 0, none⟩), .pointer (some ⟨b, 1, none⟩), .pointer (some ⟨b, 2, none⟩), .pointer (some ⟨b, 3, none⟩), .pointer (some ⟨b, 4, none⟩), .pointer (some ⟨b, 5, none⟩), .pointer (some ⟨b, 6, none⟩), .pointer (some ⟨b, 7, none⟩)]

set_option maxRecDepth 100000 in
set_option maxHeartbeats 4000000 in
theorem fields_any (w : World) (b : Nat) : Calls Tryz.prog 29 #[.pointer (some ⟨b, 0, none⟩)] w fun e w' => e = .returned (.agg (ptrs b)) ∧ Kp (fun _ => False) w w' := by
  go_enter Tryz.func29, Tryz.ntmps29
  go_wp2
  obtain ⟨V, hV⟩ : ∃ V, V = (w.alloc (.cells #[.pointer none, .pointer none, .pointer none, .pointer none, .pointer none, .pointer none, .pointer none, .pointer none] 71)).drew := ⟨_, rfl⟩
  have kV : Kp (fun _ => False) w V := by rw [hV]; exact ((Kp.refl _ _).alloc _).drew
  have aV : V.heap[w.heap.size]? = some (.cells #[.pointer none, .pointer none, .pointer none, .pointer none, .pointer none, .pointer none, .pointer none, .pointer none] 71 (0, 0)) := by rw [hV]; exact heap_new w _
  refine wp_region_held_drew (S := fun _ => True) (by kernel_rfl) trivial (fun _ => ?_)
  change wpAnyH _ _ _ _ _ _ _ _ (w.alloc (.cells #[.pointer none, .pointer none, .pointer none, .pointer none, .pointer none, .pointer none, .pointer none, .pointer none] 71)).drew
  rw [← hV]
  have ca0 := cell_of aV 0 (v := .pointer none) rfl
  have fa0 := free_of aV 0
  have ca1 := cell_of aV 1 (v := .pointer none) rfl
  have fa1 := free_of aV 1
  have ca2 := cell_of aV 2 (v := .pointer none) rfl
  have fa2 := free_of aV 2
  have ca3 := cell_of aV 3 (v := .pointer none) rfl
  have fa3 := free_of aV 3
  have ca4 := cell_of aV 4 (v := .pointer none) rfl
  have fa4 := free_of aV 4
  have ca5 := cell_of aV 5 (v := .pointer none) rfl
  have fa5 := free_of aV 5
  have ca6 := cell_of aV 6 (v := .pointer none) rfl
  have fa6 := free_of aV 6
  have ca7 := cell_of aV 7 (v := .pointer none) rfl
  have fa7 := free_of aV 7
  have AV := Lib.hid aV
  have KV := Lib.hid kV
  clear aV kV hV
  refine wpAnyH_take (i := 0) (v := ?_) rfl (by kernel_rfl) (by kernel_rfl) (by kernel_rfl) (fun _ _ _ h => h) (Or.inl ⟨by rfl, ?_⟩) trivial ?_
  rotate_left
  · intro w hSw
    go_simp
    try with_reducible rfl
  try simp only [Act.put, List.getElem_toArray, List.getElem_cons_zero, List.getElem_cons_succ, List.setIfInBounds_toArray, List.set_cons_zero, List.set_cons_succ]
  refine wpAnyH_take (i := 1) (v := ?_) rfl (by kernel_rfl) (by kernel_rfl) (by kernel_rfl) (fun _ _ _ h => h) (Or.inl ⟨by rfl, ?_⟩) trivial ?_
  rotate_left
  · intro w hSw
    go_simp
    try with_reducible rfl
  try simp only [Act.put, List.getElem_toArray, List.getElem_cons_zero, List.getElem_cons_succ, List.setIfInBounds_toArray, List.set_cons_zero, List.set_cons_succ]
  refine wpAnyH_take (i := 2) (v := ?_) rfl (by kernel_rfl) (by kernel_rfl) (by kernel_rfl) (fun _ _ _ h => h) (Or.inl ⟨by rfl, ?_⟩) trivial ?_
  rotate_left
  · intro w hSw
    go_simp
    try with_reducible rfl
  try simp only [Act.put, List.getElem_toArray, List.getElem_cons_zero, List.getElem_cons_succ, List.setIfInBounds_toArray, List.set_cons_zero, List.set_cons_succ]
  refine wpAnyH_take (i := 3) (v := ?_) rfl (by kernel_rfl) (by kernel_rfl) (by kernel_rfl) (fun _ _ _ h => h) (Or.inl ⟨by rfl, ?_⟩) trivial ?_
  rotate_left
  · intro w hSw
    go_simp
    try with_reducible rfl
  try simp only [Act.put, List.getElem_toArray, List.getElem_cons_zero, List.getElem_cons_succ, List.setIfInBounds_toArray, List.set_cons_zero, List.set_cons_succ]
  refine wpAnyH_take (i := 4) (v := ?_) rfl (by kernel_rfl) (by kernel_rfl) (by kernel_rfl) (fun _ _ _ h => h) (Or.inl ⟨by rfl, ?_⟩) trivial ?_
  rotate_left
  · intro w hSw
    go_simp
    try with_reducible rfl
  try simp only [Act.put, List.getElem_toArray, List.getElem_cons_zero, List.getElem_cons_succ, List.setIfInBounds_toArray, List.set_cons_zero, List.set_cons_succ]
  refine wpAnyH_take (i := 5) (v := ?_) rfl (by kernel_rfl) (by kernel_rfl) (by kernel_rfl) (fun _ _ _ h => h) (Or.inl ⟨by rfl, ?_⟩) trivial ?_
  rotate_left
  · intro w hSw
    go_simp
    try with_reducible rfl
  try simp only [Act.put, List.getElem_toArray, List.getElem_cons_zero, List.getElem_cons_succ, List.setIfInBounds_toArray, List.set_cons_zero, List.set_cons_succ]
  refine wpAnyH_take (i := 6) (v := ?_) rfl (by kernel_rfl) (by kernel_rfl) (by kernel_rfl) (fun _ _ _ h => h) (Or.inl ⟨by rfl, ?_⟩) trivial ?_
  rotate_left
  · intro w hSw
    go_simp
    try with_reducible rfl
  try simp only [Act.put, List.getElem_toArray, List.getElem_cons_zero, List.getElem_cons_succ, List.setIfInBounds_toArray, List.set_cons_zero, List.set_cons_succ]
  refine wpAnyH_take (i := 7) (v := ?_) rfl (by kernel_rfl) (by kernel_rfl) (by kernel_rfl) (fun _ _ _ h => h) (Or.inl ⟨by rfl, ?_⟩) trivial ?_
  rotate_left
  · intro w hSw
    go_simp
    try with_reducible rfl
  try simp only [Act.put, List.getElem_toArray, List.getElem_cons_zero, List.getElem_cons_succ, List.setIfInBounds_toArray, List.set_cons_zero, List.set_cons_succ]
  refine wpAnyH_take (i := 8) (v := ?_) rfl (by kernel_rfl) (by kernel_rfl) (by kernel_rfl) (fun _ _ _ h => h) (Or.inl ⟨by rfl, ?_⟩) trivial ?_
  rotate_left
  · intro w hSw
    go_simp
    try with_reducible rfl
  try simp only [Act.put, List.getElem_toArray, List.getElem_cons_zero, List.getElem_cons_succ, List.setIfInBounds_toArray, List.set_cons_zero, List.set_cons_succ]
  refine wpAnyH_take (i := 9) (v := ?_) rfl (by kernel_rfl) (by kernel_rfl) (by kernel_rfl) (fun _ _ _ h => h) (Or.inl ⟨by rfl, ?_⟩) trivial ?_
  rotate_left
  · intro w hSw
    go_simp
    try with_reducible rfl
  try simp only [Act.put, List.getElem_toArray, List.getElem_cons_zero, List.getElem_cons_succ, List.setIfInBounds_toArray, List.set_cons_zero, List.set_cons_succ]
  refine wpAnyH_take (i := 10) (v := ?_) rfl (by kernel_rfl) (by kernel_rfl) (by kernel_rfl) (fun _ _ _ h => h) (Or.inl ⟨by rfl, ?_⟩) trivial ?_
  rotate_left
  · intro w hSw
    go_simp
    try with_reducible rfl
  try simp only [Act.put, List.getElem_toArray, List.getElem_cons_zero, List.getElem_cons_succ, List.setIfInBounds_toArray, List.set_cons_zero, List.set_cons_succ]
  refine wpAnyH_take (i := 11) (v := ?_) rfl (by kernel_rfl) (by kernel_rfl) (by kernel_rfl) (fun _ _ _ h => h) (Or.inl ⟨by rfl, ?_⟩) trivial ?_
  rotate_left
  · intro w hSw
    go_simp
    try with_reducible rfl
  try simp only [Act.put, List.getElem_toArray, List.getElem_cons_zero, List.getElem_cons_succ, List.setIfInBounds_toArray, List.set_cons_zero, List.set_cons_succ]
  refine wpAnyH_take (i := 12) (v := ?_) rfl (by kernel_rfl) (by kernel_rfl) (by kernel_rfl) (fun _ _ _ h => h) (Or.inl ⟨by rfl, ?_⟩) trivial ?_
  rotate_left
  · intro w hSw
    go_simp
    try with_reducible rfl
  try simp only [Act.put, List.getElem_toArray, List.getElem_cons_zero, List.getElem_cons_succ, List.setIfInBounds_toArray, List.set_cons_zero, List.set_cons_succ]
  refine wpAnyH_take (i := 13) (v := ?_) rfl (by kernel_rfl) (by kernel_rfl) (by kernel_rfl) (fun _ _ _ h => h) (Or.inl ⟨by rfl, ?_⟩) trivial ?_
  rotate_left
  · intro w hSw
    go_simp
    try with_reducible rfl
  try simp only [Act.put, List.getElem_toArray, List.getElem_cons_zero, List.getElem_cons_succ, List.setIfInBounds_toArray, List.set_cons_zero, List.set_cons_succ]
  refine wpAnyH_take (i := 14) (v := ?_) rfl (by kernel_rfl) (by kernel_rfl) (by kernel_rfl) (fun _ _ _ h => h) (Or.inl ⟨by rfl, ?_⟩) trivial ?_
  rotate_left
  · intro w hSw
    go_simp
    try with_reducible rfl
  try simp only [Act.put, List.getElem_toArray, List.getElem_cons_zero, List.getElem_cons_succ, List.setIfInBounds_toArray, List.set_cons_zero, List.set_cons_succ]
  refine wpAnyH_take (i := 15) (v := ?_) rfl (by kernel_rfl) (by kernel_rfl) (by kernel_rfl) (fun _ _ _ h => h) (Or.inl ⟨by rfl, ?_⟩) trivial ?_
  rotate_left
  · intro w hSw
    go_simp
    try with_reducible rfl
  try simp only [Act.put, List.getElem_toArray, List.getElem_cons_zero, List.getElem_cons_succ, List.setIfInBounds_toArray, List.set_cons_zero, List.set_cons_succ]
  refine wpAnyH_take (i := 16) (v := ?_) rfl (by kernel_rfl) (by kernel_rfl) (by kernel_rfl) (fun _ _ _ h => h) (Or.inl ⟨by rfl, ?_⟩) trivial ?_
  rotate_left
  · intro w hSw
    go_simp
    try with_reducible rfl
  try simp only [Act.put, List.getElem_toArray, List.getElem_cons_zero, List.getElem_cons_succ, List.setIfInBounds_toArray, List.set_cons_zero, List.set_cons_succ]
  refine wpAnyH_take (i := 17) (v := ?_) rfl (by kernel_rfl) (by kernel_rfl) (by kernel_rfl) (fun _ _ _ h => h) (Or.inl ⟨by rfl, ?_⟩) trivial ?_
  rotate_left
  · intro w hSw
    go_simp
    try with_reducible rfl
  try simp only [Act.put, List.getElem_toArray, List.getElem_cons_zero, List.getElem_cons_succ, List.setIfInBounds_toArray, List.set_cons_zero, List.set_cons_succ]
  refine wpAnyH_take (i := 18) (v := ?_) rfl (by kernel_rfl) (by kernel_rfl) (by kernel_rfl) (fun _ _ _ h => h) (Or.inl ⟨by rfl, ?_⟩) trivial ?_
  rotate_left
  · intro w hSw
    go_simp
    try with_reducible rfl
  try simp only [Act.put, List.getElem_toArray, List.getElem_cons_zero, List.getElem_cons_succ, List.setIfInBounds_toArray, List.set_cons_zero, List.set_cons_succ]
  refine wpAnyH_take (i := 19) (v := ?_) rfl (by kernel_rfl) (by kernel_rfl) (by kernel_rfl) (fun _ _ _ h => h) (Or.inl ⟨by rfl, ?_⟩) trivial ?_
  rotate_left
  · intro w hSw
    go_simp
    try with_reducible rfl
  try simp only [Act.put, List.getElem_toArray, List.getElem_cons_zero, List.getElem_cons_succ, List.setIfInBounds_toArray, List.set_cons_zero, List.set_cons_succ]
  refine wpAnyH_take (i := 20) (v := ?_) rfl (by kernel_rfl) (by kernel_rfl) (by kernel_rfl) (fun _ _ _ h => h) (Or.inl ⟨by rfl, ?_⟩) trivial ?_
  rotate_left
  · intro w hSw
    go_simp
    try with_reducible rfl
  try simp only [Act.put, List.getElem_toArray, List.getElem_cons_zero, List.getElem_cons_succ, List.setIfInBounds_toArray, List.set_cons_zero, List.set_cons_succ]
  refine wpAnyH_take (i := 21) (v := ?_) rfl (by kernel_rfl) (by kernel_rfl) (by kernel_rfl) (fun _ _ _ h => h) (Or.inl ⟨by rfl, ?_⟩) trivial ?_
  rotate_left
  · intro w hSw
    go_simp
    try with_reducible rfl
  try simp only [Act.put, List.getElem_toArray, List.getElem_cons_zero, List.getElem_cons_succ, List.setIfInBounds_toArray, List.set_cons_zero, List.set_cons_succ]
  refine wpAnyH_take (i := 22) (v := ?_) rfl (by kernel_rfl) (by kernel_rfl) (by kernel_rfl) (fun _ _ _ h => h) (Or.inl ⟨by rfl, ?_⟩) trivial ?_
  rotate_left
  · intro w hSw
    go_simp
    try with_reducible rfl
  try simp only [Act.put, List.getElem_toArray, List.getElem_cons_zero, List.getElem_cons_succ, List.setIfInBounds_toArray, List.set_cons_zero, List.set_cons_succ]
  refine wpAnyH_take (i := 23) (v := ?_) rfl (by kernel_rfl) (by kernel_rfl) (by kernel_rfl) (fun _ _ _ h => h) (Or.inl ⟨by rfl, ?_⟩) trivial ?_
  rotate_left
  · intro w hSw
    go_simp
    try with_reducible rfl
  try simp only [Act.put, List.getElem_toArray, List.getElem_cons_zero, List.getElem_cons_succ, List.setIfInBounds_toArray, List.set_cons_zero, List.set_cons_succ]
  refine wpAnyH_take (i := 24) (v := ?_) rfl (by kernel_rfl) (by kernel_rfl) (by kernel_rfl) (fun _ _ _ h => h) (Or.inl ⟨by rfl, ?_⟩) trivial ?_
  rotate_left
  · intro w hSw
    go_simp
    try with_reducible rfl
  try simp only [Act.put, List.getElem_toArray, List.getElem_cons_zero, List.getElem_cons_succ, List.setIfInBounds_toArray, List.set_cons_zero, List.set_cons_succ]
  refine wpAnyH_ready (rs := [25]) (by kernel_rfl) (by simp) ?_
  refine AllReadyH.cons rfl (fun K hK => ?_) (AllReadyH.nil)
  go_simp
  refine hK.out _ _ trivial (fun _ => ?_)
  clear hK K
  try simp only [Act.put, List.getElem_toArray, List.getElem_cons_zero, List.getElem_cons_succ, List.setIfInBounds_toArray, List.set_cons_zero, List.set_cons_succ]
  refine wpAnyH_done (by kernel_rfl) ?_ _
  have aV := AV.out
  have kV := KV.out
  have hz : ((((((((V.setCell ⟨w.heap.size, 0, none⟩ (.pointer (some ⟨b, 0, none⟩))).setCell ⟨w.heap.size, 1, none⟩ (.pointer (some ⟨b, 1, none⟩))).setCell ⟨w.heap.size, 2, none⟩ (.pointer (some ⟨b, 2, none⟩))).setCell ⟨w.heap.size, 3, none⟩ (.pointer (some ⟨b, 3, none⟩))).setCell ⟨w.heap.size, 4, none⟩ (.pointer (some ⟨b, 4, none⟩))).setCell ⟨w.heap.size, 5, none⟩ (.pointer (some ⟨b, 5, none⟩))).setCell ⟨w.heap.size, 6, none⟩ (.pointer (some ⟨b, 6, none⟩))).setCell ⟨w.heap.size, 7, none⟩ (.pointer (some ⟨b, 7, none⟩))).heap[w.heap.size]? = some (.cells (ptrs b) 71 (0, 0)) := by
    have := heap_set (heap_set (heap_set (heap_set (heap_set (heap_set (heap_set (heap_set (aV) 0 (.pointer (some ⟨b, 0, none⟩))) 1 (.pointer (some ⟨b, 1, none⟩))) 2 (.pointer (some ⟨b, 2, none⟩))) 3 (.pointer (some ⟨b, 3, none⟩))) 4 (.pointer (some ⟨b, 4, none⟩))) 5 (.pointer (some ⟨b, 5, none⟩))) 6 (.pointer (some ⟨b, 6, none⟩))) 7 (.pointer (some ⟨b, 7, none⟩))
    simpa [ptrs] using this
  have hk : Kp (fun _ => False) w ((((((((V.setCell ⟨w.heap.size, 0, none⟩ (.pointer (some ⟨b, 0, none⟩))).setCell ⟨w.heap.size, 1, none⟩ (.pointer (some ⟨b, 1, none⟩))).setCell ⟨w.heap.size, 2, none⟩ (.pointer (some ⟨b, 2, none⟩))).setCell ⟨w.heap.size, 3, none⟩ (.pointer (some ⟨b, 3, none⟩))).setCell ⟨w.heap.size, 4, none⟩ (.pointer (some ⟨b, 4, none⟩))).setCell ⟨w.heap.size, 5, none⟩ (.pointer (some ⟨b, 5, none⟩))).setCell ⟨w.heap.size, 6, none⟩ (.pointer (some ⟨b, 6, none⟩))).setCell ⟨w.heap.size, 7, none⟩ (.pointer (some ⟨b, 7, none⟩))) := ((((((((kV.setCell (p := ⟨w.heap.size, 0, none⟩) (.inr (Nat.le_refl _)) (.pointer (some ⟨b, 0, none⟩))).setCell (p := ⟨w.heap.size, 1, none⟩) (.inr (Nat.le_refl _)) (.pointer (some ⟨b, 1, none⟩))).setCell (p := ⟨w.heap.size, 2, none⟩) (.inr (Nat.le_refl _)) (.pointer (some ⟨b, 2, none⟩))).setCell (p := ⟨w.heap.size, 3, none⟩) (.inr (Nat.le_refl _)) (.pointer (some ⟨b, 3, none⟩))).setCell (p := ⟨w.heap.size, 4, none⟩) (.inr (Nat.le_refl _)) (.pointer (some ⟨b, 4, none⟩))).setCell (p := ⟨w.heap.size, 5, none⟩) (.inr (Nat.le_refl _)) (.pointer (some ⟨b, 5, none⟩))).setCell (p := ⟨w.heap.size, 6, none⟩) (.inr (Nat.le_refl _)) (.pointer (some ⟨b, 6, none⟩))).setCell (p := ⟨w.heap.size, 7, none⟩) (.inr (Nat.le_refl _)) (.pointer (some ⟨b, 7, none⟩)))
  unfold ptrs at hz
  go_wp2
  have z0 := cell_of hz 0 (v := .pointer (some ⟨b, 0, none⟩)) rfl
  have z1 := cell_of hz 1 (v := .pointer (some ⟨b, 1, none⟩)) rfl
  have z2 := cell_of hz 2 (v := .pointer (some ⟨b, 2, none⟩)) rfl
  have z3 := cell_of hz 3 (v := .pointer (some ⟨b, 3, none⟩)) rfl
  have z4 := cell_of hz 4 (v := .pointer (some ⟨b, 4, none⟩)) rfl
  have z5 := cell_of hz 5 (v := .pointer (some ⟨b, 5, none⟩)) rfl
  have z6 := cell_of hz 6 (v := .pointer (some ⟨b, 6, none⟩)) rfl
  have z7 := cell_of hz 7 (v := .pointer (some ⟨b, 7, none⟩)) rfl
  exact bodyPost_ret (v := .agg (ptrs b)) (by simp [results, Tryz.results29, go_sem, ptrs, z0, z1, z2, z3, z4, z5, z6, z7]) rfl ⟨rfl, hk⟩
end Go.Proofs.YtecohkoekifeiaaGreatDoor
namespace Go.Proofs.YtecohkoekifeiaaGreatDoor
open Go.ChangeShapes Go.WideShapes Go.ChangeAt Go.RowKit
set_option linter.unusedVariables false
set_option linter.unusedSimpArgs false

/-- The message is right. -/
def okM (k f t m a b c d : Int) (ne ns nd : Nat) : Prop :=
  (1 ≤ k ∧ k ≤ 6 ∧ 0 ≤ f ∧ f < 16 ∧ 0 ≤ t ∧ t < 16 ∧ 1 ≤ m ∧ m < 1099511627776) ∧ ((0 ≤ a ∧ a ≤ 1099511627776) ∧ (0 ≤ b ∧ b ≤ 1099511627776) ∧ (0 ≤ c ∧ c ≤ 1099511627776) ∧ (0 ≤ d ∧ d ≤ 1099511627776)) ∧
    (ne ≤ 8 ∧ (k = 3 ∨ ne = 0) ∧ nd ≤ 65536) ∧ (k = 5 ∨ ns + nd = 0)

set_option maxRecDepth 100000 in
set_option maxHeartbeats 1600000 in
theorem rightM_any (w : World) (k f t m a b c d e : Int) (yes : Bool) (oe os od : Option Addr) (ne ce ns cs nd cd : Nat) (h1 : ne ≤ 1073741824) (h2 : ns ≤ 1073741824) (h3 : nd ≤ 1073741824) :
    Calls Tryz.prog 31 #[.agg #[.int .i64 k, .int .i64 f, .int .i64 t, .int .i64 m, .int .i64 a, .int .i64 b, .int .i64 c, .int .i64 d, .bool yes, .slice oe ne ce, .slice os ns cs, .slice od nd cd], .int .i64 e] w fun r w' =>
      Kp (fun _ => False) w w' ∧ ((okM k f t m a b c d ne ns nd ∧ r = .returned (.tuple #[])) ∨ (¬ okM k f t m a b c d ne ns nd ∧ r = .panicked [{ v := .iface 25 (.int .i64 e), recovered := false }])) := by
  by_cases hA : 1 ≤ k ∧ k ≤ 6 ∧ 0 ≤ f ∧ f < 16 ∧ 0 ≤ t ∧ t < 16 ∧ 1 ≤ m ∧ m < 1099511627776
  · have HAO := Lib.hid hA
    have HF := Lib.hid (fun u => fields_any u w.heap.size)
    obtain ⟨k1, k2, k3, k4, k5, k6, k7, k8⟩ := hA
    go_enter Tryz.func31, Tryz.ntmps31
    go_wp2_with (first | (go_at_call 30; refine (demand_yes _ _).mono ?_; rintro r w1 ⟨rfl, rfl⟩) | (go_at_call 29; refine Stop.mk ?_))
    unfold Stop
    clear k1 k2 k3 k4 k5 k6 k7 k8
    have hV := heap_new w (.cells #[.int .i64 k, .int .i64 f, .int .i64 t, .int .i64 m, .int .i64 a, .int .i64 b, .int .i64 c, .int .i64 d, .bool yes, .slice oe ne ce, .slice os ns cs, .slice od nd cd] 37)
    have kV := (Kp.refl (fun _ => False) w).alloc (.cells #[.int .i64 k, .int .i64 f, .int .i64 t, .int .i64 m, .int .i64 a, .int .i64 b, .int .i64 c, .int .i64 d, .bool yes, .slice oe ne ce, .slice os ns cs, .slice od nd cd] 37)
    generalize (w.alloc (.cells #[.int .i64 k, .int .i64 f, .int .i64 t, .int .i64 m, .int .i64 a, .int .i64 b, .int .i64 c, .int .i64 d, .bool yes, .slice oe ne ce, .slice os ns cs, .slice od nd cd] 37)) = V at hV kV ⊢
    refine (HF.out _).mono ?_
    rintro r w2 ⟨rfl, hk2⟩
    have hV2 := hk2.heap hV (fun h => h)
    have HV2 := Lib.hid hV2
    have HK2 := Lib.hid (kV.trans hk2)
    clear hV hV2 hk2 kV HF
    unfold ptrs
    go_wp2_with fail
    -- THE LOOP
    have hP := heap_new w2 (.cells (ptrs w.heap.size) 71)
    have hA3 : (w2.alloc (.cells (ptrs w.heap.size) 71)).heap[w.heap.size]? = some (.cells #[.int .i64 k, .int .i64 f, .int .i64 t, .int .i64 m, .int .i64 a, .int .i64 b, .int .i64 c, .int .i64 d, .bool yes, .slice oe ne ce, .slice os ns cs, .slice od nd cd] 37 (0, 0)) := heap_old _ HV2.out
    have HK3 := Lib.hid (HK2.out.alloc (.cells (ptrs w.heap.size) 71))
    unfold ptrs at hP hA3 HK3
    generalize hW3 : w2.alloc (.cells #[.pointer (some ⟨w.heap.size, 0, none⟩), .pointer (some ⟨w.heap.size, 1, none⟩), .pointer (some ⟨w.heap.size, 2, none⟩), .pointer (some ⟨w.heap.size, 3, none⟩), .pointer (some ⟨w.heap.size, 4, none⟩), .pointer (some ⟨w.heap.size, 5, none⟩), .pointer (some ⟨w.heap.size, 6, none⟩), .pointer (some ⟨w.heap.size, 7, none⟩)] 71) = W3 at hP hA3 HK3 ⊢
    have HP := Lib.hid hP
    have HA3 := Lib.hid hA3
    clear hP hA3 hW3 HV2 HK2
    generalize w2.heap.size = P at HP ⊢
    go_loopw [50] (fun i wr => ∃ n : Nat, i = .int .i64 n ∧ n ≤ 4 ∧ wr = W3 ∧ (0 < n → 0 ≤ a ∧ a ≤ 1099511627776) ∧ (1 < n → 0 ≤ b ∧ b ≤ 1099511627776) ∧ (2 < n → 0 ≤ c ∧ c ≤ 1099511627776) ∧ (3 < n → 0 ≤ d ∧ d ≤ 1099511627776)) (fun i _ => 4 - (intOf i).toNat)
    case atStart => exact ⟨0, rfl, by omega, rfl, by omega, by omega, by omega, by omega⟩
    case round =>
      obtain ⟨n, rfl, hn, hwr, q0, q1, q2, q3⟩ := hrel
      subst wr
      have Q0 := Lib.hid q0
      have Q1 := Lib.hid q1
      have Q2 := Lib.hid q2
      have Q3 := Lib.hid q3
      clear q0 q1 q2 q3
      by_cases hlt : n < 4
      · rcases (by omega : n = 0 ∨ n = 1 ∨ n = 2 ∨ n = 3) with rfl | rfl | rfl | rfl
        · have c1 := cell_of HP.out 4 (v := .pointer (some ⟨w.heap.size, 4, none⟩)) rfl
          have c2 := cell_of HA3.out 4 (v := .int .i64 a) rfl
          by_cases hz : 0 ≤ a ∧ a ≤ 1099511627776
          · have HZ := Lib.hid hz
            obtain ⟨z1, z2⟩ := hz
            go_wp2_with (first | (go_at_call 30; refine (demand_yes _ _).mono ?_; rintro r w4 ⟨rfl, rfl⟩))
            go_roundw
            case rel => exact ⟨1, rfl, by omega, trivial, fun _ => HZ.out, by omega, by omega, by omega⟩
            case measure => simp [intOf]
          · have HZ := Lib.hid hz
            clear hz
            go_wp2_with (go_at_call 30; refine Stop.mk ?_)
            all_goals unfold Stop
            all_goals
              first
                | (have hm : ¬ (a ≤ 1099511627776) := by
                     have := HZ.out
                     omega
                   simp only [hm, decide_false]
                   refine (demand_no _ _).mono ?_)
                | refine (demand_no _ _).mono ?_
              rintro r w4 ⟨rfl, rfl⟩
              exact ⟨rfl, HK3.out, .inr ⟨fun h => HZ.out h.2.1.1, rfl⟩⟩
        · have c1 := cell_of HP.out 5 (v := .pointer (some ⟨w.heap.size, 5, none⟩)) rfl
          have c2 := cell_of HA3.out 5 (v := .int .i64 b) rfl
          by_cases hz : 0 ≤ b ∧ b ≤ 1099511627776
          · have HZ := Lib.hid hz
            obtain ⟨z1, z2⟩ := hz
            go_wp2_with (first | (go_at_call 30; refine (demand_yes _ _).mono ?_; rintro r w4 ⟨rfl, rfl⟩))
            go_roundw
            case rel => exact ⟨2, rfl, by omega, trivial, fun _ => Q0.out (by omega), fun _ => HZ.out, by omega, by omega⟩
            case measure => simp [intOf]
          · have HZ := Lib.hid hz
            clear hz
            go_wp2_with (go_at_call 30; refine Stop.mk ?_)
            all_goals unfold Stop
            all_goals
              first
                | (have hm : ¬ (b ≤ 1099511627776) := by
                     have := HZ.out
                     omega
                   simp only [hm, decide_false]
                   refine (demand_no _ _).mono ?_)
                | refine (demand_no _ _).mono ?_
              rintro r w4 ⟨rfl, rfl⟩
              exact ⟨rfl, HK3.out, .inr ⟨fun h => HZ.out h.2.1.2.1, rfl⟩⟩
        · have c1 := cell_of HP.out 6 (v := .pointer (some ⟨w.heap.size, 6, none⟩)) rfl
          have c2 := cell_of HA3.out 6 (v := .int .i64 c) rfl
          by_cases hz : 0 ≤ c ∧ c ≤ 1099511627776
          · have HZ := Lib.hid hz
            obtain ⟨z1, z2⟩ := hz
            go_wp2_with (first | (go_at_call 30; refine (demand_yes _ _).mono ?_; rintro r w4 ⟨rfl, rfl⟩))
            go_roundw
            case rel => exact ⟨3, rfl, by omega, trivial, fun _ => Q0.out (by omega), fun _ => Q1.out (by omega), fun _ => HZ.out, by omega⟩
            case measure => simp [intOf]
          · have HZ := Lib.hid hz
            clear hz
            go_wp2_with (go_at_call 30; refine Stop.mk ?_)
            all_goals unfold Stop
            all_goals
              first
                | (have hm : ¬ (c ≤ 1099511627776) := by
                     have := HZ.out
                     omega
                   simp only [hm, decide_false]
                   refine (demand_no _ _).mono ?_)
                | refine (demand_no _ _).mono ?_
              rintro r w4 ⟨rfl, rfl⟩
              exact ⟨rfl, HK3.out, .inr ⟨fun h => HZ.out h.2.1.2.2.1, rfl⟩⟩
        · have c1 := cell_of HP.out 7 (v := .pointer (some ⟨w.heap.size, 7, none⟩)) rfl
          have c2 := cell_of HA3.out 7 (v := .int .i64 d) rfl
          by_cases hz : 0 ≤ d ∧ d ≤ 1099511627776
          · have HZ := Lib.hid hz
            obtain ⟨z1, z2⟩ := hz
            go_wp2_with (first | (go_at_call 30; refine (demand_yes _ _).mono ?_; rintro r w4 ⟨rfl, rfl⟩))
            go_roundw
            case rel => exact ⟨4, rfl, by omega, trivial, fun _ => Q0.out (by omega), fun _ => Q1.out (by omega), fun _ => Q2.out (by omega), fun _ => HZ.out⟩
            case measure => simp [intOf]
          · have HZ := Lib.hid hz
            clear hz
            go_wp2_with (go_at_call 30; refine Stop.mk ?_)
            all_goals unfold Stop
            all_goals
              first
                | (have hm : ¬ (d ≤ 1099511627776) := by
                     have := HZ.out
                     omega
                   simp only [hm, decide_false]
                   refine (demand_no _ _).mono ?_)
                | refine (demand_no _ _).mono ?_
              rintro r w4 ⟨rfl, rfl⟩
              exact ⟨rfl, HK3.out, .inr ⟨fun h => HZ.out h.2.1.2.2.2, rfl⟩⟩
      · obtain rfl : n = 4 := by omega
        have hABCD : (0 ≤ a ∧ a ≤ 1099511627776) ∧ (0 ≤ b ∧ b ≤ 1099511627776) ∧ (0 ≤ c ∧ c ≤ 1099511627776) ∧ (0 ≤ d ∧ d ≤ 1099511627776) := ⟨Q0.out (by omega), Q1.out (by omega), Q2.out (by omega), Q3.out (by omega)⟩
        have HABCD := Lib.hid hABCD
        have c0 := cell_of HA3.out 0 (v := .int .i64 k) rfl
        have c9 := cell_of HA3.out 9 (v := .slice oe ne ce) rfl
        have c10 := cell_of HA3.out 10 (v := .slice os ns cs) rfl
        have c11 := cell_of HA3.out 11 (v := .slice od nd cd) rfl
        clear hABCD Q0 Q1 Q2 Q3
        by_cases hB : ne ≤ 8 ∧ (k = 3 ∨ ne = 0) ∧ nd ≤ 65536
        · have HB := Lib.hid hB
          obtain ⟨g1, g2, g3⟩ := hB
          have g1' : (ne : Int) ≤ 8 := by omega
          have g3' : (nd : Int) ≤ 65536 := by omega
          clear g1 g3
          by_cases hk3 : k = 3
          · by_cases hs : ns + nd = 0
            · have hsI : (ns : Int) + (nd : Int) = 0 := by omega
              go_wp2_with (go_at_call 30; refine Stop.mk ?_)
              unfold Stop
              refine (demand_yes _ _).mono ?_
              rintro r w5 ⟨rfl, rfl⟩
              go_wp2_with (go_at_call 30; refine Stop.mk ?_)
              unfold Stop
              refine (demand_yes _ _).mono ?_
              rintro r w6 ⟨rfl, rfl⟩
              go_wp2
              go_end0
              exact ⟨HK3.out, .inl ⟨⟨HAO.out, HABCD.out, HB.out, .inr hs⟩, rfl⟩⟩
            · have hsI : ¬ ((ns : Int) + (nd : Int) = 0) := by omega
              go_wp2_with (go_at_call 30; refine Stop.mk ?_)
              unfold Stop
              refine (demand_yes _ _).mono ?_
              rintro r w5 ⟨rfl, rfl⟩
              go_wp2_with (go_at_call 30; refine Stop.mk ?_)
              unfold Stop
              have hb : ((ns : Int) + (nd : Int) == 0) = false := by simpa using hsI
              rw [hb]
              refine (demand_no _ _).mono ?_
              rintro r w6 ⟨rfl, rfl⟩
              exact ⟨rfl, HK3.out, .inr ⟨fun h => absurd h.2.2.2 (by omega), rfl⟩⟩
          · have hne : (ne : Int) = 0 := by have := g2.resolve_left hk3; omega
            by_cases hk5 : k = 5
            · clear g2
              go_wp2_with (go_at_call 30; refine Stop.mk ?_)
              unfold Stop
              refine (demand_yes _ _).mono ?_
              rintro r w5 ⟨rfl, rfl⟩
              go_wp2_with (go_at_call 30; refine Stop.mk ?_)
              unfold Stop
              refine (demand_yes _ _).mono ?_
              rintro r w5 ⟨rfl, rfl⟩
              go_wp2
              go_end0
              exact ⟨HK3.out, .inl ⟨⟨HAO.out, HABCD.out, HB.out, .inl (by first | exact hk5 | rfl)⟩, rfl⟩⟩
            · clear g2
              by_cases hs : ns + nd = 0
              · have hsI : (ns : Int) + (nd : Int) = 0 := by omega
                go_wp2_with (go_at_call 30; refine Stop.mk ?_)
                unfold Stop
                refine (demand_yes _ _).mono ?_
                rintro r w5 ⟨rfl, rfl⟩
                go_wp2_with (go_at_call 30; refine Stop.mk ?_)
                unfold Stop
                refine (demand_yes _ _).mono ?_
                rintro r w6 ⟨rfl, rfl⟩
                go_wp2
                go_end0
                exact ⟨HK3.out, .inl ⟨⟨HAO.out, HABCD.out, HB.out, .inr hs⟩, rfl⟩⟩
              · have hsI : ¬ ((ns : Int) + (nd : Int) = 0) := by omega
                go_wp2_with (go_at_call 30; refine Stop.mk ?_)
                unfold Stop
                refine (demand_yes _ _).mono ?_
                rintro r w5 ⟨rfl, rfl⟩
                go_wp2_with (go_at_call 30; refine Stop.mk ?_)
                unfold Stop
                have hb : ((ns : Int) + (nd : Int) == 0) = false := by simpa using hsI
                have hb5 : (k == 5) = false := by simpa using hk5
                rw [hb, hb5, Bool.or_self]
                refine (demand_no _ _).mono ?_
                rintro r w6 ⟨rfl, rfl⟩
                exact ⟨rfl, HK3.out, .inr ⟨fun h => absurd h.2.2.2 (by omega), rfl⟩⟩
        · have HB := Lib.hid hB
          clear hB
          go_wp2_with (go_at_call 30; refine Stop.mk ?_)
          all_goals unfold Stop
          all_goals
            first
              | (have hm : ¬ ((nd : Int) ≤ 65536) := by
                   have := HB.out
                   omega
                 simp only [hm, decide_false]
                 refine (demand_no _ _).mono ?_)
              | refine (demand_no _ _).mono ?_
            rintro r w4 ⟨rfl, rfl⟩
            exact ⟨rfl, HK3.out, .inr ⟨fun h => HB.out h.2.2.1, rfl⟩⟩
  · have H := Lib.hid hA
    clear hA
    go_enter Tryz.func31, Tryz.ntmps31
    go_wp2_with (go_at_call 30; refine Stop.mk ?_)
    all_goals unfold Stop
    all_goals
      first
        | (have hm : ¬ (m < 1099511627776) := by
             have := H.out
             omega
           simp only [hm, decide_false]
           refine (demand_no _ _).mono ?_)
        | refine (demand_no _ _).mono ?_
      rintro r w1 ⟨rfl, rfl⟩
      have kV := (Kp.refl (fun _ => False) w).alloc (.cells #[.int .i64 k, .int .i64 f, .int .i64 t, .int .i64 m, .int .i64 a, .int .i64 b, .int .i64 c, .int .i64 d, .bool yes, .slice oe ne ce, .slice os ns cs, .slice od nd cd] 37)
      exact ⟨rfl, kV, .inr ⟨fun h => H.out h.1, rfl⟩⟩
end Go.Proofs.YtecohkoekifeiaaGreatDoor
namespace Go.Proofs.YtecohkoekifeiaaGreatDoor
open Go.ChangeShapes Go.WideShapes Go.ChangeAt Go.RowKit
set_option linter.unusedVariables false
set_option linter.unusedSimpArgs false

set_option maxHeartbeats 800000 in
theorem mbytes_any {w : World} {a : Option Addr} {b : List Int} (h : Row w a (bytes b)) (hb : b.length ≤ 1048576) (c : Nat) :
    Calls Tryz.prog 34 #[.slice a b.length c] w fun e w' => ∃ o co, e = .returned (.slice o (encB b).length co) ∧ Owns w' w.heap.size 5 1 o (encB b).length co (bytes (encB b)) ∧ Kp (fun _ => False) w w' := by
  have HP := Lib.hid (putBytes_good h hb c)
  clear h hb
  go_enter Tryz.func34, Tryz.ntmps34
  go_wp2_with (go_at_call 24; refine Stop.mk ?_)
  unfold Stop
  refine (HP.out).mono ?_
  rintro e w1 ⟨o, co, rfl, ho, hk⟩
  have HO := Lib.hid ho
  have HK := Lib.hid hk
  clear ho hk HP
  generalize hl : (encB b).length = l at HO ⊢
  go_wp2_with (go_at_call 30; refine Stop.mk ?_)
  unfold Stop
  refine (demand_yes _ _).mono ?_
  rintro e w2 ⟨rfl, rfl⟩
  go_wp2
  subst hl
  go_ret
  exact ⟨o, co, rfl, HO.out, HK.out⟩
end Go.Proofs.YtecohkoekifeiaaGreatDoor
