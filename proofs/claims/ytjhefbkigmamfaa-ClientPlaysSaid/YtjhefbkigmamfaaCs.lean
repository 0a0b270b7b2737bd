/-
  The small functions of a client, each walked once: none, number, next, the clones. No condition.
-/
import Derived.Test.YtjhefbkigmamfaaCb
import Derived.Deep.QuietTactic
import Derived.Deep.RegionHeld3
import Derived.Lib.SliceRun
import Derived.Lib.Hide
namespace Go.Proofs.Ytjhefbkigmamfaa
open Go.ChangeShapes Go.WideShapes Go.ChangeAt Go.RowKit
set_option linter.unusedVariables false

theorem info3 : (Try.prog.info? 3).map (fun i => (i.zero, i.size, i.bytes)) = some (some (.int .i64 0), 1, 8) := by kernel_rfl
theorem info5 : (Try.prog.info? 5).map (fun i => (i.zero, i.size, i.bytes)) = some (some (.int .u8 0), 1, 1) := by kernel_rfl
theorem info30 : (Try.prog.info? 30).map (fun i => (i.zero, i.size, i.bytes)) = some (some (.slice none 0 0), 1, 24) := by kernel_rfl
theorem info40 : (Try.prog.info? 40).map (fun i => (i.size, i.bytes)) = some (8, 80) := by kernel_rfl

theorem num_any (w : World) (e : Int) : Calls Try.prog 10 #[.int .i64 e] w fun r w' => r = .returned (.int .i64 e) ∧ w' = w := by
  go_enter Try.func10, Try.ntmps10
  go_wp2_with fail
  go_ret
  exact ⟨rfl, rfl⟩
theorem none_of {w : World} {b : Nat} {id : Int} (hc : w.cell? ⟨b, 2, none⟩ = some (.int .i64 id)) : Calls Try.prog 27 #[.pointer (some ⟨b, 0, none⟩)] w fun r w' => r = .returned (.bool (id == 0)) ∧ w' = w := by
  go_enter Try.func27, Try.ntmps27
  go_wp2_with fail
  go_ret
  exact ⟨rfl, rfl⟩
theorem none_nil (w : World) : Calls Try.prog 27 #[.pointer none] w fun r w' => r = .returned (.bool true) ∧ w' = w := by
  go_enter Try.func27, Try.ntmps27
  go_wp2_with fail
  go_ret
  exact ⟨rfl, rfl⟩
theorem none_no {w : World} {B : Nat} {R : Nat → Prop} {b : Nat} {v : CV} (k : Client w B R b v) : Calls Try.prog 27 #[.pointer (some ⟨b, 0, none⟩)] w fun r w' => r = .returned (.bool false) ∧ w' = w := by
  have h := none_of (id := v.id) (cell_of k.blk 2 rfl)
  rw [show (v.id == 0) = false by have := k.id1; simp; omega] at h
  exact h

set_option maxHeartbeats 4000000 in
theorem clone26 {w : World} {a : Option Addr} {vs : List Value} (hr : Row w a vs) (h1 : ∀ u ∈ vs, u.oneCell' = true) (hm : vs.length * 8 ≤ 140737488355328) (c : Nat) :
    Calls Try.prog 26 #[.slice a vs.length c] w fun e w' => ∃ o co, e = .returned (.slice o vs.length co) ∧ Owns w' w.heap.size 3 1 o vs.length co vs ∧ Kp (fun _ => False) w w' := by
  have HR := Lib.hid hr
  have H1 := Lib.hid h1
  have HM := Lib.hid hm
  have heq := fun w' => Lib.run_eql_slice_nil (P := Try.prog) w' 22 3 a vs.length c 0 0 Try.underlying22
  cases a with
  | none =>
    have hz : vs = [] := by
      cases vs with
      | nil => rfl
      | cons z r =>
        obtain ⟨_, _, e, _⟩ := hr 0 _ rfl
        cases e
    subst hz
    clear hr h1 hm
    simp only [Option.isNone_none, List.length_nil] at heq
    go_enter Try.func26, Try.ntmps26
    go_wp2_with fail
    go_ret
    exact ⟨none, 0, rfl, Owns.nil _ _ _ _, Kp.refl _ _⟩
  | some ad =>
    clear hr h1 hm
    obtain ⟨n, hn⟩ : ∃ n, n = vs.length := ⟨_, rfl⟩
    rw [← hn] at heq ⊢
    have HN := Lib.hid hn
    clear hn
    simp only [Option.isNone_some] at heq
    go_enter Try.func26, Try.ntmps26
    go_wp2_with (at_builtin; refine Stop.mk ?_)
    unfold Stop
    refine wpList_app rfl _ _ 22 rfl w.heap.size 3 info3 Try.underlying22 rfl (by decide) rfl (Owns.lit (heap_new w _) (Nat.le_refl _)) rfl (news := vs) (by rw [HN.out]; omega) ((HR.out.no ((Kp.refl _ _).alloc _)).news) H1.out (by have := HM.out; rw [← HN.out] at this; unfold maxLen; omega) (by have := HM.out; rw [← HN.out] at this; omega) (by simp) ?_
    intro a' cap' w' ho hk
    rw [Nat.zero_add, List.nil_append] at ho
    have HO := Lib.hid ho
    have HK := Lib.hid (((Kp.refl (fun _ => False) w).alloc (.cells #[] 3)).andThen hk (fun i hi e => by cases e; exact absurd hi (Nat.lt_irrefl _)))
    clear ho hk
    go_wp2_with fail
    go_ret
    exact ⟨a', cap', by simp, HO.out, HK.out⟩
set_option maxHeartbeats 4000000 in
theorem clone29 {w : World} {a : Option Addr} {vs : List Value} (hr : Row w a vs) (h1 : ∀ u ∈ vs, u.oneCell' = true) (hm : vs.length * 1 ≤ 140737488355328) (c : Nat) :
    Calls Try.prog 29 #[.slice a vs.length c] w fun e w' => ∃ o co, e = .returned (.slice o vs.length co) ∧ Owns w' w.heap.size 5 1 o vs.length co vs ∧ Kp (fun _ => False) w w' := by
  have HR := Lib.hid hr
  have H1 := Lib.hid h1
  have HM := Lib.hid hm
  have heq := fun w' => Lib.run_eql_slice_nil (P := Try.prog) w' 30 5 a vs.length c 0 0 Try.underlying30
  cases a with
  | none =>
    have hz : vs = [] := by
      cases vs with
      | nil => rfl
      | cons z r =>
        obtain ⟨_, _, e, _⟩ := hr 0 _ rfl
        cases e
    subst hz
    clear hr h1 hm
    simp only [Option.isNone_none, List.length_nil] at heq
    go_enter Try.func29, Try.ntmps29
    go_wp2_with fail
    go_ret
    exact ⟨none, 0, rfl, Owns.nil _ _ _ _, Kp.refl _ _⟩
  | some ad =>
    clear hr h1 hm
    obtain ⟨n, hn⟩ : ∃ n, n = vs.length := ⟨_, rfl⟩
    rw [← hn] at heq ⊢
    have HN := Lib.hid hn
    clear hn
    simp only [Option.isNone_some] at heq
    go_enter Try.func29, Try.ntmps29
    go_wp2_with (at_builtin; refine Stop.mk ?_)
    unfold Stop
    refine wpList_app rfl _ _ 30 rfl w.heap.size 5 info5 Try.underlying30 rfl (by decide) rfl (Owns.lit (heap_new w _) (Nat.le_refl _)) rfl (news := vs) (by rw [HN.out]; omega) ((HR.out.no ((Kp.refl _ _).alloc _)).news) H1.out (by have := HM.out; rw [← HN.out] at this; unfold maxLen; omega) (by have := HM.out; rw [← HN.out] at this; omega) (by simp) ?_
    intro a' cap' w' ho hk
    rw [Nat.zero_add, List.nil_append] at ho
    have HO := Lib.hid ho
    have HK := Lib.hid (((Kp.refl (fun _ => False) w).alloc (.cells #[] 5)).andThen hk (fun i hi e => by cases e; exact absurd hi (Nat.lt_irrefl _)))
    clear ho hk
    go_wp2_with fail
    go_ret
    exact ⟨a', cap', by simp, HO.out, HK.out⟩
set_option maxHeartbeats 4000000 in
theorem clone45 {w : World} {a : Option Addr} {vs : List Value} (hr : Row w a vs) (h1 : ∀ u ∈ vs, u.oneCell' = true) (hm : vs.length * 24 ≤ 140737488355328) (c : Nat) :
    Calls Try.prog 45 #[.slice a vs.length c] w fun e w' => ∃ o co, e = .returned (.slice o vs.length co) ∧ Owns w' w.heap.size 30 1 o vs.length co vs ∧ Kp (fun _ => False) w w' := by
  have HR := Lib.hid hr
  have H1 := Lib.hid h1
  have HM := Lib.hid hm
  have heq := fun w' => Lib.run_eql_slice_nil (P := Try.prog) w' 45 30 a vs.length c 0 0 Try.underlying45
  cases a with
  | none =>
    have hz : vs = [] := by
      cases vs with
      | nil => rfl
      | cons z r =>
        obtain ⟨_, _, e, _⟩ := hr 0 _ rfl
        cases e
    subst hz
    clear hr h1 hm
    simp only [Option.isNone_none, List.length_nil] at heq
    go_enter Try.func45, Try.ntmps45
    go_wp2_with fail
    go_ret
    exact ⟨none, 0, rfl, Owns.nil _ _ _ _, Kp.refl _ _⟩
  | some ad =>
    clear hr h1 hm
    obtain ⟨n, hn⟩ : ∃ n, n = vs.length := ⟨_, rfl⟩
    rw [← hn] at heq ⊢
    have HN := Lib.hid hn
    clear hn
    simp only [Option.isNone_some] at heq
    go_enter Try.func45, Try.ntmps45
    go_wp2_with (at_builtin; refine Stop.mk ?_)
    unfold Stop
    refine wpList_app rfl _ _ 45 rfl w.heap.size 30 info30 Try.underlying45 rfl (by decide) rfl (Owns.lit (heap_new w _) (Nat.le_refl _)) rfl (news := vs) (by rw [HN.out]; omega) ((HR.out.no ((Kp.refl _ _).alloc _)).news) H1.out (by have := HM.out; rw [← HN.out] at this; unfold maxLen; omega) (by have := HM.out; rw [← HN.out] at this; omega) (by simp) ?_
    intro a' cap' w' ho hk
    rw [Nat.zero_add, List.nil_append] at ho
    have HO := Lib.hid ho
    have HK := Lib.hid (((Kp.refl (fun _ => False) w).alloc (.cells #[] 30)).andThen hk (fun i hi e => by cases e; exact absurd hi (Nat.lt_irrefl _)))
    clear ho hk
    go_wp2_with fail
    go_ret
    exact ⟨a', cap', by simp, HO.out, HK.out⟩
end Go.Proofs.Ytjhefbkigmamfaa
