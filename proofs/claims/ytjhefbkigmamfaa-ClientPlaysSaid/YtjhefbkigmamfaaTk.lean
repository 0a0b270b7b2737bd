/-
  Tick, walked once. Where the counts are few.
-/
import Derived.Test.YtjhefbkigmamfaaAs
import Derived.LoopN
import Derived.Laws.EntriesVeiled
namespace Go.Proofs.Ytjhefbkigmamfaa
open Go.ChangeShapes Go.WideShapes Go.ChangeAt Go.RowKit
set_option linter.unusedVariables false

theorem run_index0 (w : World) (F G : Value) : (Instr.index 71 (.agg #[F, G]) (.int .i64 0)).run Try.prog w = .ok F w := by
  simp [Instr.index, run_underlying Try.underlying71, asIntOf, go_sem]
theorem run_index1 (w : World) (F G : Value) : (Instr.index 71 (.agg #[F, G]) (.int .i64 1)).run Try.prog w = .ok G w := by
  simp [Instr.index, run_underlying Try.underlying71, asIntOf, go_sem]
set_option maxHeartbeats 4000000 in
theorem tick_idle {w : World} {B : Nat} {R : Nat → Prop} {b : Nat} {v : CV} (k : Client w B R b v) (hs : v.state ≠ 1) : Calls Try.prog 13 #[.pointer (some ⟨b, 0, none⟩)] w fun e w' => e = .returned (.int .i64 0) ∧ w' = w := by
  have c := cell_of k.blk 8 (v := .int .i64 v.state) rfl
  have hsb : (v.state != 1) = true := by simp [hs]
  have HK := Lib.hid k
  clear k hs
  go_enter Try.func13, Try.ntmps13
  go_wp2_with (first | (go_at_call 27; refine (none_no HK.out).mono ?_; rintro e w1 ⟨rfl, rfl⟩))
  go_ret
  exact ⟨rfl, rfl⟩

set_option maxHeartbeats 4000000 in
theorem tick_wait {w : World} {B : Nat} {R : Nat → Prop} {b : Nat} {v : CV} (k : Client w B R b v) (hs : v.state = 1) (hp0 : 0 ≤ v.passed) (hp : v.passed + 1 < v.pat) : Calls Try.prog 13 #[.pointer (some ⟨b, 0, none⟩)] w fun e w' => e = .returned (.int .i64 0) ∧ Client w' B R b { v with passed := v.passed + 1 } ∧ Kp (fun j => j = b) w w' := by
  have c := cell_of k.blk 8 (v := .int .i64 v.state) rfl
  rw [hs] at c
  have c4 := cell_of k.blk 4 (v := .int .i64 v.passed) rfl
  have c3 := cell_of k.blk 3 (v := .int .i64 v.pat) rfl
  have f4 := free_of k.blk 4
  have w1 : IntKind.i64.wrap (v.passed + 1) = v.passed + 1 := IntWalk.i64_in _ (by have := k.pat2; omega)
  have hle : decide (v.pat ≤ v.passed + 1) = false := decide_eq_false (by omega)
  have HK := Lib.hid k
  clear k hs hp hp0
  go_enter Try.func13, Try.ntmps13
  go_wp2_with (first | (go_at_call 27; refine (none_no HK.out).mono ?_; rintro e w1 ⟨rfl, rfl⟩))
  have k := HK.out
  have hk2 : Kp (fun j => j = b) w1 (w1.setCell ⟨b, 4, none⟩ (.int .i64 (v.passed + 1))) := (Kp.refl (fun j => j = b) _).setCell (p := ⟨b, 4, none⟩) (.inl rfl) _
  have k2 : Client (w1.setCell ⟨b, 4, none⟩ (.int .i64 (v.passed + 1))) B R b { v with passed := v.passed + 1 } :=
    k.set hk2 { v with passed := v.passed + 1 } (heap_set k.blk 4 (.int .i64 (v.passed + 1))) ⟨rfl, rfl, rfl, rfl, rfl, rfl, rfl⟩ k.at_ ⟨k.ord, k.ordR, k.ordL⟩ ⟨k.ans, k.ansR, k.rec_⟩
  generalize w1.setCell ⟨b, 4, none⟩ (.int .i64 (v.passed + 1)) = w2 at hk2 k2 ⊢
  have e4 : w2.cell? ⟨b, 4, none⟩ = some (.int .i64 (v.passed + 1)) := cell_of k2.blk 4 rfl
  have e3 : w2.cell? ⟨b, 3, none⟩ = some (.int .i64 v.pat) := cell_of k2.blk 3 rfl
  have K2 := Lib.hid k2
  have HK2 := Lib.hid hk2
  clear k hk2 k2 c c4 c3 f4
  go_quiet (fail)
  go_wp2
  go_ret
  exact ⟨rfl, K2.out.no ((Kp.refl _ _).drewN _), HK2.out.drewN _⟩

set_option maxRecDepth 100000 in
set_option maxHeartbeats 4000000 in
theorem tick_ask {w : World} {B : Nat} {R : Nat → Prop} {b : Nat} {v : CV} (k : Client w B R b v) (hs : v.state = 1) (hp0 : 0 ≤ v.passed) (hp1 : v.passed ≤ v.pat) (hp : v.pat ≤ v.passed + 1) (ht : Few (v.tries + 1)) (ht0 : 0 ≤ v.tries) (hc : v.cl.length ≤ 1500000000000) (hB : B ≤ w.heap.size) :
    Calls Try.prog 13 #[.pointer (some ⟨b, 0, none⟩)] w fun e w' => e = .returned (.int .i64 0) ∧ ∃ da dc R' ca' cc', Client w' B R' b { more { v with at_ := nextAt v } with ca := ca', cl := v.cl ++ [callOf (more { v with at_ := nextAt v }) da dc], cc := cc' } ∧ Kp (Foot b v.ca) w w' ∧ (∀ j, R' j → R j ∨ w.heap.size ≤ j) ∧ Moved w v.ca ca' := by
  have c := cell_of k.blk 8 (v := .int .i64 v.state) rfl
  rw [hs] at c
  have c4 := cell_of k.blk 4 (v := .int .i64 v.passed) rfl
  have c3 := cell_of k.blk 3 (v := .int .i64 v.pat) rfl
  have f4 := free_of k.blk 4
  have w1 : IntKind.i64.wrap (v.passed + 1) = v.passed + 1 := IntWalk.i64_in _ (by have := k.pat2; omega)
  have hle : decide (v.pat ≤ v.passed + 1) = true := decide_eq_true (by omega)
  have HK := Lib.hid k
  have HT := Lib.hid ht
  have HT0 := Lib.hid ht0
  clear k hs hp hp0 hp1 ht ht0
  go_enter Try.func13, Try.ntmps13
  go_wp2_with (first | (go_at_call 27; refine (none_no HK.out).mono ?_; rintro e w1 ⟨rfl, rfl⟩))
  have k := HK.out
  have hk2 : Kp (fun j => j = b) w1 (w1.setCell ⟨b, 4, none⟩ (.int .i64 (v.passed + 1))) := (Kp.refl (fun j => j = b) _).setCell (p := ⟨b, 4, none⟩) (.inl rfl) _
  have k2 : Client (w1.setCell ⟨b, 4, none⟩ (.int .i64 (v.passed + 1))) B R b { v with passed := v.passed + 1 } :=
    k.set hk2 { v with passed := v.passed + 1 } (heap_set k.blk 4 (.int .i64 (v.passed + 1))) ⟨rfl, rfl, rfl, rfl, rfl, rfl, rfl⟩ k.at_ ⟨k.ord, k.ordR, k.ordL⟩ ⟨k.ans, k.ansR, k.rec_⟩
  generalize w1.setCell ⟨b, 4, none⟩ (.int .i64 (v.passed + 1)) = w2 at hk2 k2 ⊢
  have e4 : w2.cell? ⟨b, 4, none⟩ = some (.int .i64 (v.passed + 1)) := cell_of k2.blk 4 rfl
  have e3 : w2.cell? ⟨b, 3, none⟩ = some (.int .i64 v.pat) := cell_of k2.blk 3 rfl
  have K2 := Lib.hid k2
  have HK2 := Lib.hid hk2
  clear k hk2 k2 c c4 c3 f4
  go_quiet (fail)
  have K3 := Lib.hid (K2.out.no (w' := w2.drewN nq) ((Kp.refl _ _).drewN _))
  have HK3 := Lib.hid (HK2.out.drewN nq)
  clear K2 HK2 e4 e3
  generalize w2.drewN nq = w3 at K3 HK3 ⊢
  go_wp2_with fail
  refine wp_loop_rounds 3 ?_
  have hi0 := @run_index0
  have hi1 := @run_index1
  rw [rounds_succ]
  go_wp2_with fail
  refine (next_any K3.out).mono ?_
  rintro e w4 ⟨rfl, k4, hk4⟩
  have K4 := Lib.hid k4
  have HK4 := Lib.hid (HK3.out.trans hk4)
  clear k4 hk4 K3 HK3
  go_wp2_with fail
  rw [rounds_succ]
  go_wp2_with fail
  refine (ask_any K4.out HT.out HT0.out hc (by have := HK4.out.size; omega)).mono ?_
  rintro e w5 ⟨rfl, da, dc, R', ca', cc', k5, hk5, hr5, hm5⟩
  have K5 := Lib.hid k5
  have HK5 := Lib.hid ((HK4.out.mono (S' := Foot b v.ca) (fun _ _ h => .inl h)).trans hk5)
  have HR5 := Lib.hid hr5
  have HM5 := Lib.hid hm5
  have HS4 := HK4.out.size
  clear k5 hk5 hr5 hm5 K4 HK4
  go_wp2_with fail
  rw [rounds_succ]
  go_wp2_with fail
  go_ret
  exact ⟨rfl, da, dc, R', ca', cc', K5.out, HK5.out, fun j hj => (HR5.out j hj).imp_right (fun h => by omega), HM5.out.imp_right (fun h g hg => by have := h g hg; omega)⟩
end Go.Proofs.Ytjhefbkigmamfaa
