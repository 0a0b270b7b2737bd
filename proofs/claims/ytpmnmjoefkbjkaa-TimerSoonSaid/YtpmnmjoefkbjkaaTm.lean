/-
  The timer's functions and the reference's, each walked once: what each answers and what it leaves in memory. No condition but that the timer lies where the pointer says.
-/
import Derived.Test.YtpmnmjoefkbjkaaBase
namespace Go.Proofs.Ytpmnmjoefkbjkaa
open Go.ChangeShapes Go.WideShapes Go.ChangeAt Go.RowKit

/-- A timer in block b. -/
def Tm (w : World) (b : Nat) (n lim least : Int) : Prop := w.heap[b]? = some (.cells #[.int .i64 n, .int .i64 lim, .int .i64 least] 40 (0, 0))

theorem Tm.c0 {w : World} {b : Nat} {n lim least : Int} (h : Tm w b n lim least) : w.cell? ⟨b, 0, none⟩ = some (.int .i64 n) := cell_of h 0 rfl
theorem Tm.c1 {w : World} {b : Nat} {n lim least : Int} (h : Tm w b n lim least) : w.cell? ⟨b, 1, none⟩ = some (.int .i64 lim) := cell_of h 1 rfl
theorem Tm.c2 {w : World} {b : Nat} {n lim least : Int} (h : Tm w b n lim least) : w.cell? ⟨b, 2, none⟩ = some (.int .i64 least) := cell_of h 2 rfl
theorem Tm.f {w : World} {b : Nat} {n lim least : Int} (h : Tm w b n lim least) (i : Nat) : w.frozen? ⟨b, i, none⟩ = false := free_of h i
theorem Kp.one (w : World) (b o : Nat) (v : Value) : Kp (· = b) w (w.setCell ⟨b, o, none⟩ v) := (Kp.refl (fun k => k = b) w).setCell (p := ⟨b, o, none⟩) (.inl rfl) v

theorem none_nil (w : World) : Calls Try.prog 19 #[.pointer none] w fun e w' => e = .returned (.bool true) ∧ w = w' := by
  go_enter Try.func19, Try.ntmps19
  go_wp2
  go_ret
  exact ⟨rfl, rfl⟩

theorem none_at {w : World} {b : Nat} {n lim least : Int} (h : Tm w b n lim least)  : Calls Try.prog 19 #[.pointer (some ⟨b, 0, none⟩)] w fun e w' => e = .returned (.bool (least == 0)) ∧ w = w' := by
  have c2 := cell_of h 2 rfl
  clear h
  go_enter Try.func19, Try.ntmps19
  go_wp2
  go_ret
  exact ⟨rfl, rfl⟩
theorem none_made {w : World} {b : Nat} {n lim least : Int} (h : Tm w b n lim least)  (h1 : 1 ≤ least) : Calls Try.prog 19 #[.pointer (some ⟨b, 0, none⟩)] w fun e w' => e = .returned (.bool false) ∧ w = w' := by
  have e : (least == 0) = false := by simp; omega
  have := none_at h
  rwa [e] at this

theorem up_any {w : World} {b : Nat} {n lim least : Int} (hT : Tm w b n lim least) (h0 : 0 ≤ n) (h1 : n ≤ 1000000)  :
    Calls Try.prog 20 #[.pointer (some ⟨b, 0, none⟩)] w fun e w' => e = .returned (.bool (min (n + 1) lim == lim)) ∧ Tm w' b (min (n + 1) lim) lim least ∧ Kp (· = b) w w' := by
  have hw : IntKind.i64.wrap (n + 1) = n + 1 := IntWalk.i64_in _ (by omega)
  have c0 := hT.c0
  have c1 := hT.c1
  have f0 := hT.f 0
  have fin : ∀ v : Int, Tm (w.setCell ⟨b, 0, none⟩ (.int .i64 v)) b v lim least := fun v => heap_set hT 0 (.int .i64 v)
  have HF := Lib.hid fin
  clear fin hT
  by_cases h : n + 1 ≤ lim
  · have h' : ¬ lim < n + 1 := by omega
    have e1 : min (n + 1) lim = n + 1 := by omega
    rw [e1]
    clear e1
    go_enter Try.func20, Try.ntmps20
    go_wp2
    go_still_tail 13, (by kernel_rfl)
    change wpList _ _ _ _ _ w.drew
    go_wp2
    go_quiet (fail)
    go_wp2
    go_ret
    exact ⟨rfl, HF.out _, (Kp.one _ _ _ _).drew.drewN _⟩
  · have h' : lim < n + 1 := by omega
    have e1 : min (n + 1) lim = lim := by omega
    rw [e1]
    clear e1
    go_enter Try.func20, Try.ntmps20
    go_wp2
    go_still_tail 13, (by kernel_rfl)
    change wpList _ _ _ _ _ w.drew
    go_wp2
    go_quiet (fail)
    go_wp2
    go_ret
    exact ⟨by simp, HF.out _, (Kp.one _ _ _ _).drew.drewN _⟩

/-- The limit behind a reset. -/
def limOf (least draw : Int) : Int := least + (draw.tmod least + least).tmod least
theorem limOf_eq (least draw : Int) (h : 1 ≤ least) : limOf least draw = least + draw % least := by
  unfold limOf
  congr 1
  have h1 := Int.emod_nonneg draw (show least ≠ 0 by omega)
  have h2 := Int.emod_lt_of_pos draw (show 0 < least by omega)
  by_cases h0 : 0 ≤ draw
  · rw [Int.tmod_eq_emod_of_nonneg h0, Int.tmod_eq_emod_of_nonneg (by omega), Int.add_emod_right, Int.emod_emod_of_dvd _ (Int.dvd_refl _)]
  · have e : draw.tmod least = draw % least - if least ∣ draw then 0 else least := by
      rw [Int.tmod_eq_emod]; simp [h0]; split <;> omega
    rw [e]
    split
    · rw [Int.tmod_eq_emod_of_nonneg (by omega)]; simp
    · rw [Int.tmod_eq_emod_of_nonneg (by omega)]
      have : draw % least - least + least = draw % least := by omega
      rw [this]; simp

theorem Tm.set2 {w : World} {b : Nat} {n lim least : Int} (h : Tm w b n lim least) (x y : Int) : Tm ((w.setCell ⟨b, 0, none⟩ (.int .i64 x)).setCell ⟨b, 1, none⟩ (.int .i64 y)) b x y least :=
  heap_set (heap_set h 0 (.int .i64 x)) 1 (.int .i64 y)
theorem tmod_lo (a m : Int) (h : 1 ≤ m) : -m < a.tmod m ∧ a.tmod m < m := by
  have h1 := Int.tmod_lt_of_pos a (show 0 < m by omega)
  have h2 := Int.lt_tmod_of_pos a (show 0 < m by omega)
  omega
theorem limOf_lo (least draw : Int) (h : 1 ≤ least) : least ≤ limOf least draw ∧ limOf least draw < 2 * least := by
  rw [limOf_eq _ _ h]
  have h1 := Int.emod_nonneg draw (show least ≠ 0 by omega)
  have h2 := Int.emod_lt_of_pos draw (show 0 < least by omega)
  omega

theorem reset_any {w : World} {b : Nat} {n lim least : Int} (hT : Tm w b n lim least) (draw : Int) (hl : 1 ≤ least) (hl' : least ≤ 1000)  :
    Calls Try.prog 12 #[.pointer (some ⟨b, 0, none⟩), .int .i64 draw] w fun e w' => e = .returned (.int .i64 0) ∧ Tm w' b 0 (limOf least draw) least ∧ Kp (· = b) w w' := by
  have hN := none_made hT hl
  have c0 := hT.c0
  have c1 := hT.c1
  have c2 := hT.c2
  have f0 := hT.f 0
  have f1 := hT.f 1
  have hz : ¬ least = 0 := by omega
  have t1 := tmod_lo draw least hl
  have t2 := limOf_lo least draw hl
  have hw1 : IntKind.i64.wrap (draw.tmod least + least) = draw.tmod least + least := IntWalk.i64_in _ (by omega)
  have hw2 : IntKind.i64.wrap (least + (draw.tmod least + least).tmod least) = limOf least draw := IntWalk.i64_in _ (by unfold limOf at t2; omega)
  have HF := Lib.hid (hT.set2 0 (limOf least draw))
  clear hT t1 t2
  go_enter Try.func12, Try.ntmps12
  go_wp2_with (go_at_call 19; refine hN.mono ?_; rintro e w' ⟨rfl, rfl⟩)
  go_still_tail 25, (by kernel_rfl)
  change wpList _ _ _ _ _ w.drew
  go_wp2
  go_ret
  exact ⟨rfl, HF.out, (((Kp.one _ _ _ _).trans (Kp.one _ _ _ _)).drew)⟩

theorem tick_any {w : World} {b : Nat} {n lim least : Int} (hT : Tm w b n lim least) (h0 : 0 ≤ n) (h1 : n ≤ 1000000) (hl : 1 ≤ least)  :
    Calls Try.prog 13 #[.pointer (some ⟨b, 0, none⟩)] w fun e w' => e = .returned (.bool (min (n + 1) lim == lim)) ∧ Tm w' b (min (n + 1) lim) lim least ∧ Kp (· = b) w w' := by
  have hN := none_made hT hl
  have hU := up_any hT h0 h1
  go_enter Try.func13, Try.ntmps13
  go_wp2_with (first | (go_at_call 19; refine hN.mono ?_; rintro e w' ⟨rfl, rfl⟩) | (go_at_call 20; refine hU.mono ?_; rintro e w' ⟨rfl, hT', hk'⟩))
  go_ret
  exact ⟨rfl, hT', hk'⟩

theorem quiet_any {w : World} {b : Nat} {n lim least : Int} (hT : Tm w b n lim least) (hl : 1 ≤ least)  :
    Calls Try.prog 14 #[.pointer (some ⟨b, 0, none⟩)] w fun e w' => e = .returned (.int .i64 n) ∧ w = w' := by
  have hN := none_made hT hl
  have c0 := hT.c0
  go_enter Try.func14, Try.ntmps14
  go_wp2_with (first | (go_at_call 19; refine hN.mono ?_; rintro e w' ⟨rfl, rfl⟩))
  go_ret
  exact ⟨rfl, rfl⟩
theorem limit_any {w : World} {b : Nat} {n lim least : Int} (hT : Tm w b n lim least) (hl : 1 ≤ least)  :
    Calls Try.prog 15 #[.pointer (some ⟨b, 0, none⟩)] w fun e w' => e = .returned (.int .i64 lim) ∧ w = w' := by
  have hN := none_made hT hl
  have c1 := hT.c1
  go_enter Try.func15, Try.ntmps15
  go_wp2_with (first | (go_at_call 19; refine hN.mono ?_; rintro e w' ⟨rfl, rfl⟩))
  go_ret
  exact ⟨rfl, rfl⟩
theorem fresh_q {w : World} {b : Nat} {n lim least : Int} (hT : Tm w b n lim least) (hl : 1 ≤ least) :
    Calls Try.prog 16 #[.pointer (some ⟨b, 0, none⟩)] w fun e w' => e = .returned (.bool (decide (n < least))) ∧ ∃ k, w' = w.drewN k := by
  have hN := fun k => none_made (w := w.drewN k) hT hl
  have c0 := hT.c0
  have c2 := hT.c2
  go_enter Try.func16, Try.ntmps16
  go_wp2_with fail
  go_quiet ((go_at_call 19; exact Calls.quiet_of_same ((hN _).mono fun _ _ h => ⟨h.1, h.2.symm⟩)))
  go_wp2
  go_ret
  exact ⟨rfl, _, rfl⟩
theorem fresh_any {w : World} {b : Nat} {n lim least : Int} (hT : Tm w b n lim least) (hl : 1 ≤ least) :
    Calls Try.prog 16 #[.pointer (some ⟨b, 0, none⟩)] w fun e w' => e = .returned (.bool (decide (n < least))) ∧ Tm w' b n lim least ∧ Kp (fun _ => False) w w' :=
  (fresh_q hT hl).mono fun _ _ ⟨h, _, hw⟩ => ⟨h, hw ▸ hT, hw ▸ (Kp.refl _ _).drewN _⟩

theorem new_no (w : World) (least draw : Int) (h : least < 1 ∨ 1000 < least) :
    Calls Try.prog 7 #[.int .i64 least, .int .i64 draw] w fun e w' => e = .returned (.tuple #[.pointer none, .int .i64 1]) ∧ w = w' := by
  rcases h with h | h
  all_goals
    go_enter Try.func7, Try.ntmps7
    go_wp2
    go_ret2
    exact ⟨rfl, rfl⟩
theorem new_yes (w : World) (least draw : Int) (h : 1 ≤ least) (h' : least ≤ 1000) :
    Calls Try.prog 7 #[.int .i64 least, .int .i64 draw] w fun e w' => e = .returned (.tuple #[.pointer (some ⟨w.heap.size, 0, none⟩), .int .i64 0]) ∧ Tm w' w.heap.size 0 (limOf least draw) least ∧ Kp (fun _ => False) w w' := by
  go_enter Try.func7, Try.ntmps7
  go_wp2_with (first | (go_at_call 12; refine (reset_any (heap_new _ _) draw h h').mono ?_; rintro e w' ⟨rfl, hT', hk'⟩))
  go_ret2
  exact ⟨rfl, hT', ((Kp.refl _ _).alloc _).andThen hk' (fun i hi e => by omega)⟩
end Go.Proofs.Ytpmnmjoefkbjkaa
