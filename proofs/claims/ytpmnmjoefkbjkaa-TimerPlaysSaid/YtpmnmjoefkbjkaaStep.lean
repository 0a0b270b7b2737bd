/-
  The reference's timer and one step on both timers, each walked once: they agree. No condition but that the timers lie where the pointers say and have passed alike.
-/
import Derived.Test.YtpmnmjoefkbjkaaKn
namespace Go.Proofs.Ytpmnmjoefkbjkaa
open Go.ChangeShapes Go.WideShapes Go.ChangeAt Go.RowKit

/-- The reference's timer in block b. -/
def Rt (w : World) (b : Nat) (n lim least : Int) : Prop := w.heap[b]? = some (.cells #[.int .i64 least, .int .i64 lim, .int .i64 n] 44 (0, 0))
theorem Rt.c0 {w : World} {b : Nat} {n lim least : Int} (h : Rt w b n lim least) : w.cell? ⟨b, 0, none⟩ = some (.int .i64 least) := cell_of h 0 rfl
theorem Rt.c1 {w : World} {b : Nat} {n lim least : Int} (h : Rt w b n lim least) : w.cell? ⟨b, 1, none⟩ = some (.int .i64 lim) := cell_of h 1 rfl
theorem Rt.c2 {w : World} {b : Nat} {n lim least : Int} (h : Rt w b n lim least) : w.cell? ⟨b, 2, none⟩ = some (.int .i64 n) := cell_of h 2 rfl
theorem Rt.f {w : World} {b : Nat} {n lim least : Int} (h : Rt w b n lim least) (i : Nat) : w.frozen? ⟨b, i, none⟩ = false := free_of h i
theorem Rt.set {w : World} {b : Nat} {n lim least : Int} (h : Rt w b n lim least) (x : Int) : Rt (w.setCell ⟨b, 2, none⟩ (.int .i64 x)) b x lim least := heap_set h 2 (.int .i64 x)
theorem Rt.setl {w : World} {b : Nat} {n lim least : Int} (h : Rt w b n lim least) (y : Int) : Rt (w.setCell ⟨b, 1, none⟩ (.int .i64 y)) b n y least := heap_set h 1 (.int .i64 y)

theorem rtick_low {w : World} {b : Nat} {n lim least : Int} (hT : Rt w b n lim least) (h0 : 0 ≤ n) (h1 : n + 1 < lim) (hm : lim ≤ 1000000) :
    Calls Try.prog 18 #[.pointer (some ⟨b, 0, none⟩)] w fun e w' => e = .returned (.bool false) ∧ Rt w' b (n + 1) lim least ∧ Kp (· = b) w w' := by
  have hw : IntKind.i64.wrap (n + 1) = n + 1 := IntWalk.i64_in _ (by omega)
  have c1 := hT.c1
  have c2 := hT.c2
  have f2 := hT.f 2
  have hd : decide (n < lim) = true := by simp; omega
  have hb : (n + 1 == lim) = false := by simp; omega
  have HF := Lib.hid (hT.set (n + 1))
  clear hT
  go_enter Try.func18, Try.ntmps18
  go_wp2
  go_quiet (fail)
  go_wp2
  go_quiet (fail)
  go_wp2
  go_ret
  exact ⟨rfl, HF.out, ((Kp.one _ _ _ _).drewN _).drewN _⟩
theorem rtick_last {w : World} {b : Nat} {n lim least : Int} (hT : Rt w b n lim least) (h0 : 0 ≤ n) (h1 : n + 1 = lim) (hm : lim ≤ 1000000) :
    Calls Try.prog 18 #[.pointer (some ⟨b, 0, none⟩)] w fun e w' => e = .returned (.bool true) ∧ Rt w' b lim lim least ∧ Kp (· = b) w w' := by
  subst h1
  have hw : IntKind.i64.wrap (n + 1) = n + 1 := IntWalk.i64_in _ (by omega)
  have c1 := hT.c1
  have c2 := hT.c2
  have f2 := hT.f 2
  have hd : decide (n < n + 1) = true := by simp; omega
  have HF := Lib.hid (hT.set (n + 1))
  clear hT
  go_enter Try.func18, Try.ntmps18
  go_wp2
  go_quiet (fail)
  go_wp2
  go_quiet (fail)
  go_wp2
  go_ret
  exact ⟨by simp, HF.out, ((Kp.one _ _ _ _).drewN _).drewN _⟩
theorem rtick_full {w : World} {b : Nat} {lim least : Int} (hT : Rt w b lim lim least) :
    Calls Try.prog 18 #[.pointer (some ⟨b, 0, none⟩)] w fun e w' => e = .returned (.bool true) ∧ Rt w' b lim lim least ∧ Kp (· = b) w w' := by
  have c1 := hT.c1
  have c2 := hT.c2
  have HF := Lib.hid hT
  clear hT
  go_enter Try.func18, Try.ntmps18
  go_wp2
  go_quiet (fail)
  go_wp2
  go_quiet (fail)
  go_wp2
  go_ret
  exact ⟨by simp, HF.out, ((Kp.refl _ _).drewN _).drewN _⟩
theorem rtick_high {w : World} {b : Nat} {n lim least : Int} (hT : Rt w b n lim least) (h0 : 0 ≤ n) (h1 : lim ≤ n + 1) (hn : n ≤ lim) (hm : lim ≤ 1000000) :
    Calls Try.prog 18 #[.pointer (some ⟨b, 0, none⟩)] w fun e w' => e = .returned (.bool true) ∧ Rt w' b lim lim least ∧ Kp (· = b) w w' := by
  by_cases h : n = lim
  · subst h
    exact rtick_full hT
  · exact rtick_last hT h0 (by omega) hm

theorem rreset_any {w : World} {b : Nat} {n lim least : Int} (hT : Rt w b n lim least) (draw : Int) (hl : 1 ≤ least) (hl' : least ≤ 1000) :
    Calls Try.prog 17 #[.pointer (some ⟨b, 0, none⟩), .int .i64 draw] w fun e w' => e = .returned (.tuple #[]) ∧ Rt w' b 0 (limOf least draw) least ∧ Kp (· = b) w w' := by
  have c2 := hT.c2
  have f2 := hT.f 2
  have hz : ¬ least = 0 := by omega
  have t1 := tmod_lo draw least hl
  have t2 := limOf_lo least draw hl
  have hw1 : IntKind.i64.wrap (draw.tmod least + least) = draw.tmod least + least := IntWalk.i64_in _ (by omega)
  have hw2 : IntKind.i64.wrap (least + (draw.tmod least + least).tmod least) = limOf least draw := IntWalk.i64_in _ (by unfold limOf at t2; omega)
  have HF := Lib.hid (hT.set 0)
  have hK := Kp.one w b 2 (.int .i64 0)
  clear hT t1 t2
  go_enter Try.func17, Try.ntmps17
  go_wp2
  have hX := HF.out
  clear HF c2 f2
  generalize w.setCell ⟨b, 2, none⟩ (.int .i64 0) = wx at hX hK ⊢
  have c0 := hX.c0
  have c1 := hX.c1
  have f1 := hX.f 1
  have HF := Lib.hid (hX.setl (limOf least draw))
  clear hX
  go_still_tail 24, (by kernel_rfl)
  change wpList _ _ _ _ _ (World.drew _)
  go_wp2
  go_end0
  exact ⟨rfl, HF.out, (hK.trans (Kp.one _ _ _ _)).drew⟩
theorem rnew_no (w : World) (least draw : Int) (h : least < 1 ∨ 1000 < least) :
    Calls Try.prog 8 #[.int .i64 least, .int .i64 draw] w fun e w' => e = .returned (.pointer none) ∧ w = w' := by
  rcases h with h | h
  all_goals
    go_enter Try.func8, Try.ntmps8
    go_wp2
    go_ret
    exact ⟨rfl, rfl⟩
theorem rnew_yes (w : World) (least draw : Int) (h : 1 ≤ least) (h' : least ≤ 1000) :
    Calls Try.prog 8 #[.int .i64 least, .int .i64 draw] w fun e w' => e = .returned (.pointer (some ⟨w.heap.size, 0, none⟩)) ∧ Rt w' w.heap.size 0 (limOf least draw) least ∧ Kp (fun _ => False) w w' := by
  go_enter Try.func8, Try.ntmps8
  go_wp2_with (first | (go_at_call 17; refine (rreset_any (heap_new _ _) draw h h').mono ?_; rintro e w' ⟨rfl, hT', hk'⟩))
  go_ret
  exact ⟨rfl, hT', ((Kp.refl _ _).alloc _).andThen hk' (fun i hi e => by omega)⟩
/-- Both timers, alike. -/
structure Both (w : World) (b c : Nat) (n lim least : Int) : Prop where
  t : Tm w b n lim least
  r : Rt w c n lim least
  ne : b ≠ c
  n0 : 0 ≤ n
  nl : n ≤ lim
  l1 : 1 ≤ least
  l2 : least ≤ 1000
  lm : lim ≤ 1000000

theorem step_any {w : World} {b c : Nat} {n lim least : Int} (h : Both w b c n lim least) (K D : Int) :
    Calls Try.prog 11 #[.pointer (some ⟨b, 0, none⟩), .pointer (some ⟨c, 0, none⟩), .agg #[.int .i64 K, .int .i64 D]] w fun e w' => e = .returned (.bool true) ∧
      (∃ n' lim', Both w' b c n' lim' least) ∧ Kp (fun k => k = b ∨ k = c) w w' := by
  obtain ⟨hT, hR, hne, n0, nl, l1, l2, lm⟩ := h
  have hT0 : Tm (w.alloc (.cells #[.int .i64 K, .int .i64 D] 33)) b n lim least := heap_old _ hT
  have hR0 : Rt (w.alloc (.cells #[.int .i64 K, .int .i64 D] 33)) c n lim least := heap_old _ hR
  have hK0 : Kp (fun k => k = b ∨ k = c) w (w.alloc (.cells #[.int .i64 K, .int .i64 D] 33)) := (Kp.refl _ _).alloc _
  by_cases hK : K = 0
  · subst hK
    by_cases hn : n + 1 < lim
    · have hn' := hn
      go_enter Try.func11, Try.ntmps11
      go_wp2_with fail
      refine (tick_low hT0 n0 hn lm l1).mono ?_
      rintro e w1 ⟨rfl, hT1, hk1⟩
      go_wp2_with fail
      refine (rtick_low (hk1.heap hR0 (Ne.symm hne)) n0 hn lm).mono ?_
      rintro e w2 ⟨rfl, hR2, hk2⟩
      have hT2 : Tm w2 b (n + 1) lim least := hk2.heap hT1 hne
      have hKw : Kp (fun k => k = b ∨ k = c) w w2 := hK0.trans ((hk1.mono fun _ _ h => .inl h).trans (hk2.mono fun _ _ h => .inr h))
      go_wp2_with fail
      have c0 := hR2.c0
      have c1 := hR2.c1
      have c2 := hR2.c2
      have hq := fun k => quiet_any (w := w2.drewN k) hT2 l1
      have hl := fun k => limit_any (w := w2.drewN k) hT2 l1
      have hf := fun k => fresh_q (w := w2.drewN k) hT2 l1
      have HT := Lib.hid hT2
      have HR := Lib.hid hR2
      clear hT2 hR2
      go_quiet ((first | (go_at_call 14; exact Calls.quiet_of_same ((hq _).mono fun _ _ h => ⟨h.1, h.2.symm⟩)) | (go_at_call 15; exact Calls.quiet_of_same ((hl _).mono fun _ _ h => ⟨h.1, h.2.symm⟩)) | (go_at_call 16; exact Calls.quiet_of (hf _))))
      go_wp2
      go_ret
      exact ⟨rfl, ⟨_, _, HT.out, HR.out, hne, by omega, by omega, l1, l2, by omega⟩, hKw.drewN _⟩
    · have hn' := hn
      go_enter Try.func11, Try.ntmps11
      go_wp2_with fail
      refine (tick_high hT0 n0 (by omega) (by omega) l1).mono ?_
      rintro e w1 ⟨rfl, hT1, hk1⟩
      go_wp2_with fail
      refine (rtick_high (hk1.heap hR0 (Ne.symm hne)) n0 (by omega) nl lm).mono ?_
      rintro e w2 ⟨rfl, hR2, hk2⟩
      have hT2 : Tm w2 b lim lim least := hk2.heap hT1 hne
      have hKw : Kp (fun k => k = b ∨ k = c) w w2 := hK0.trans ((hk1.mono fun _ _ h => .inl h).trans (hk2.mono fun _ _ h => .inr h))
      go_wp2_with fail
      have c0 := hR2.c0
      have c1 := hR2.c1
      have c2 := hR2.c2
      have hq := fun k => quiet_any (w := w2.drewN k) hT2 l1
      have hl := fun k => limit_any (w := w2.drewN k) hT2 l1
      have hf := fun k => fresh_q (w := w2.drewN k) hT2 l1
      have HT := Lib.hid hT2
      have HR := Lib.hid hR2
      clear hT2 hR2
      go_quiet ((first | (go_at_call 14; exact Calls.quiet_of_same ((hq _).mono fun _ _ h => ⟨h.1, h.2.symm⟩)) | (go_at_call 15; exact Calls.quiet_of_same ((hl _).mono fun _ _ h => ⟨h.1, h.2.symm⟩)) | (go_at_call 16; exact Calls.quiet_of (hf _))))
      go_wp2
      go_ret
      exact ⟨rfl, ⟨_, _, HT.out, HR.out, hne, by omega, by omega, l1, l2, by omega⟩, hKw.drewN _⟩
  · have hn' := hK
    have hb : (K == 0) = false := by simp [hK]
    go_enter Try.func11, Try.ntmps11
    go_wp2_with fail
    refine (reset_any hT0 D l1 l2).mono ?_
    rintro e w1 ⟨rfl, hT1, hk1⟩
    have hD : w1.cell? ⟨w.heap.size, 1, none⟩ = some (.int .i64 D) := cell_of (hk1.heap (heap_new _ _) (by have := lt_of_block hT; omega)) 1 rfl
    have hn0 := limOf_lo least D l1
    go_wp2_with (first | (go_at_call 9; refine (num_any _ _).mono ?_; rintro e w' ⟨rfl, rfl⟩))
    refine (rreset_any (hk1.heap hR0 (Ne.symm hne)) D l1 l2).mono ?_
    rintro e w2 ⟨rfl, hR2, hk2⟩
    have hT2 : Tm w2 b 0 (limOf least D) least := hk2.heap hT1 hne
    have hKw : Kp (fun k => k = b ∨ k = c) w w2 := hK0.trans ((hk1.mono fun _ _ h => .inl h).trans (hk2.mono fun _ _ h => .inr h))
    go_wp2_with fail
    have c0 := hR2.c0
    have c1 := hR2.c1
    have c2 := hR2.c2
    have hq := fun k => quiet_any (w := w2.drewN k) hT2 l1
    have hl := fun k => limit_any (w := w2.drewN k) hT2 l1
    have hf := fun k => fresh_q (w := w2.drewN k) hT2 l1
    have HT := Lib.hid hT2
    have HR := Lib.hid hR2
    clear hT2 hR2
    go_quiet ((first | (go_at_call 14; exact Calls.quiet_of_same ((hq _).mono fun _ _ h => ⟨h.1, h.2.symm⟩)) | (go_at_call 15; exact Calls.quiet_of_same ((hl _).mono fun _ _ h => ⟨h.1, h.2.symm⟩)) | (go_at_call 16; exact Calls.quiet_of (hf _))))
    go_wp2
    go_ret
    exact ⟨rfl, ⟨_, _, HT.out, HR.out, hne, by omega, by omega, l1, l2, by omega⟩, hKw.drewN _⟩
end Go.Proofs.Ytpmnmjoefkbjkaa
