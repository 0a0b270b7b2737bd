/-
  TimerApart: for every three ints the law returns true and leaves its arguments as they were. No condition.
-/
import Derived.Test.YtpmnmjoefkbjkaaKn
import Derived.Test.YtpmnmjoefkbjkaaFin
namespace Go.Proofs.Ytpmnmjoefkbjkaa.timerApart
open Go.ChangeShapes Go.WideShapes Go.ChangeAt Go.RowKit

theorem tmod_emod (a L : Int) : a.tmod L % L = a % L := by
  have h := Int.mul_tdiv_add_tmod a L
  have e : a.tmod L = a - L * a.tdiv L := by omega
  rw [e, Int.sub_mul_emod_self_left]
theorem alike_eq (a b L : Int) (h : 1 ≤ L) : (a.tmod L % L == b.tmod L % L) = (limOf L a == limOf L b) := by
  rw [tmod_emod, tmod_emod, limOf_eq L a h, limOf_eq L b h, Bool.eq_iff_iff]
  simp

theorem walk (a0 a1 a2 : Int) (W : World) :
    Calls Try.prog 6 #[.int .i64 a0, .int .i64 a1, .int .i64 a2] W fun e w' => e = .returned (.bool true) ∧ Below W.heap.size W w' := by
  have t0 := tmod_lo a0 1000 (by omega)
  go_enter Try.func6, Try.ntmps6
  go_wp2_with fail
  generalize hL : (1 + a0.tmod 1000 % 1000 : Int) = L
  have l1 : 1 ≤ L := by omega
  have l2 : L ≤ 1000 := by omega
  have l3 := limOf_lo L a1 l1
  have l4 := limOf_lo L a2 l1
  clear hL t0
  refine (new_yes _ L a1 l1 l2).mono ?_
  rintro e w1 ⟨rfl, hT1, hk1⟩
  obtain ⟨M, hM⟩ : ∃ M, M = limOf L a1 := ⟨_, rfl⟩
  obtain ⟨N, hN⟩ : ∃ N, N = limOf L a2 := ⟨_, rfl⟩
  rw [← hM] at hT1 l3
  rw [← hN] at l4
  have HM := Lib.hid hM
  have HN := Lib.hid hN
  clear hM hN
  go_wp2_with fail
  refine (new_yes _ L a2 l1 l2).mono ?_
  rintro e w2 ⟨rfl, hU2, hk2⟩
  rw [← HN.out] at hU2
  have hT2 : Tm w2 W.heap.size 0 M L := hk2.heap hT1 (fun h => h)
  have hlt : W.heap.size < w1.heap.size := lt_of_block hT1
  obtain ⟨C, hC⟩ : ∃ C, C = w1.heap.size := ⟨_, rfl⟩
  rw [← hC] at hU2 hlt ⊢
  clear hC
  go_wp2_with (first | (go_at_call 9; refine (num_any _ _).mono ?_; rintro e w' ⟨rfl, rfl⟩) | (go_at_call 10; refine (knows_any _).mono ?_; rintro e w3 ⟨rfl, hk3⟩))
  have t1 := tmod_lo a1 L l1
  have t2 := tmod_lo a2 L l1
  have hz : ¬ L = 0 := by omega
  have hw1 : IntKind.i64.wrap (a1.tmod L + L) = a1.tmod L + L := IntWalk.i64_in _ (by omega)
  have hw2 : IntKind.i64.wrap (a2.tmod L + L) = a2.tmod L + L := IntWalk.i64_in _ (by omega)
  go_quiet (fail)
  clear hw1 hw2
  go_wp2_with fail
  simp only [Int.add_emod_right]
  have hal := alike_eq a1 a2 L l1
  rw [← HM.out, ← HN.out] at hal
  have hT3 : Tm (w3.drewN nq) W.heap.size 0 M L := hk3.heap hT2 (fun h => h)
  have hU3 : Tm (w3.drewN nq) C 0 N L := hk3.heap hU2 (fun h => h)
  have B3 : Kp (fun k => W.heap.size ≤ k) W (w3.drewN nq) := ((hk1.no.trans hk2.no).trans hk3.no).drewN _
  generalize w3.drewN nq = w4 at hT3 hU3 B3 ⊢
  clear hT1 hT2 hU2 hk1 hk2 hk3 hz t1 t2
  have HB := Lib.hid hal
  clear hal
  go_loopw [12] (fun i wr => ∃ k : Int, i = .int .i64 k ∧ 0 ≤ k ∧ k < M ∧ k < N ∧ Tm wr W.heap.size k M L ∧ Tm wr C k N L ∧ Kp (fun k => W.heap.size ≤ k) W wr) (fun i _ => (M - intOf i).toNat)
  case atStart => exact ⟨0, rfl, by omega, by omega, by omega, hT3, hU3, B3⟩
  case round =>
    obtain ⟨k, rfl, k0, k1, k2, hT, hU, hB⟩ := hrel
    clear hT3 hU3 B3
    have hk : k < 2 * L := by omega
    by_cases hm : k + 1 < M
    · by_cases hn : k + 1 < N
      · go_wp2_with fail
        refine (tick_low hT k0 hm (by omega) l1).mono ?_
        rintro e w5 ⟨rfl, hT5, hk5⟩
        have hU5 : Tm w5 C k N L := hk5.heap hU (by omega)
        have hB5 : Kp (fun k => W.heap.size ≤ k) W w5 := hB.trans (hk5.eq (Nat.le_refl _))
        go_wp2_with fail
        refine (tick_low hU5 k0 hn (by omega) l1).mono ?_
        rintro e w6 ⟨rfl, hU6, hk6⟩
        have hB6 : Kp (fun k => W.heap.size ≤ k) W w6 := hB5.trans (hk6.eq (by omega))
        have hT6 : Tm w6 W.heap.size (k + 1) M L := hk6.heap hT5 (by omega)
        go_wp2
        go_roundw
        case rel => exact ⟨k + 1, by go_num, by omega, hm, hn, hT6, hU6, hB6⟩
        case measure => simp [intOf]; omega
      · have hal : (a1.tmod L % L == a2.tmod L % L) = false := by rw [HB.out]; simp; omega
        go_wp2_with fail
        refine (tick_low hT k0 hm (by omega) l1).mono ?_
        rintro e w5 ⟨rfl, hT5, hk5⟩
        have hU5 : Tm w5 C k N L := hk5.heap hU (by omega)
        have hB5 : Kp (fun k => W.heap.size ≤ k) W w5 := hB.trans (hk5.eq (Nat.le_refl _))
        go_wp2_with fail
        refine (tick_high hU5 k0 (by omega) (by omega) l1).mono ?_
        rintro e w6 ⟨rfl, hU6, hk6⟩
        have hB6 : Kp (fun k => W.heap.size ≤ k) W w6 := hB5.trans (hk6.eq (by omega))
        go_wp2
        go_ret
        exact ⟨rfl, hB6.belowW⟩
    · by_cases hn : k + 1 < N
      · have hal : (a1.tmod L % L == a2.tmod L % L) = false := by rw [HB.out]; simp; omega
        go_wp2_with fail
        refine (tick_high hT k0 (by omega) (by omega) l1).mono ?_
        rintro e w5 ⟨rfl, hT5, hk5⟩
        have hU5 : Tm w5 C k N L := hk5.heap hU (by omega)
        have hB5 : Kp (fun k => W.heap.size ≤ k) W w5 := hB.trans (hk5.eq (Nat.le_refl _))
        go_wp2_with fail
        refine (tick_low hU5 k0 hn (by omega) l1).mono ?_
        rintro e w6 ⟨rfl, hU6, hk6⟩
        have hB6 : Kp (fun k => W.heap.size ≤ k) W w6 := hB5.trans (hk6.eq (by omega))
        go_wp2
        go_ret
        exact ⟨rfl, hB6.belowW⟩
      · have hal : (a1.tmod L % L == a2.tmod L % L) = true := by rw [HB.out]; simp; omega
        go_wp2_with fail
        refine (tick_high hT k0 (by omega) (by omega) l1).mono ?_
        rintro e w5 ⟨rfl, hT5, hk5⟩
        have hU5 : Tm w5 C k N L := hk5.heap hU (by omega)
        have hB5 : Kp (fun k => W.heap.size ≤ k) W w5 := hB.trans (hk5.eq (Nat.le_refl _))
        go_wp2_with fail
        refine (tick_high hU5 k0 (by omega) (by omega) l1).mono ?_
        rintro e w6 ⟨rfl, hU6, hk6⟩
        have hB6 : Kp (fun k => W.heap.size ≤ k) W w6 := hB5.trans (hk6.eq (by omega))
        go_wp2
        go_ret
        exact ⟨rfl, hB6.belowW⟩

set_option maxRecDepth 100000 in
theorem lifted (os : Os) (started : os.Started) (H : Type) (enc : TypeId × Value → H) :
    ReturnsInHanded {} Try.checked os 6 .any (Rows.timerApartSpec.pre6 enc Try.prog Try.f6 Rows.timerApartRow.domain false) (Rows.timerApartSpec.post enc Try.prog Try.f6 false true false false) := by
  refine returnsInHanded_of_change (C := Try.checked) own started (by kernel_rfl) Try.func6
    (ChangeSpec.witness6 (enc := enc) (C := Try.checked) false ⟨#[], #[.int .i64 0, .int .i64 0, .int .i64 0], []⟩ 8 (by kernel_rfl) (by kernel_rfl) (by kernel_rfl) (by kernel_rfl)) ?_
  intro W base args ds gs before hval0 hW _ _
  have hval : ∀ (j : Nat) t v, Try.f6.params[j]? = some t → args[j]? = some v → Value.okWide Try.prog W .any base t v := hval0
  have hW' := hW
  obtain ⟨p, q, hA0, hV, rfl, hfz, hnd⟩ := hW
  have hA : DataW.TrodAll enc Try.prog W 0 (fun _ => true) true Try.f6.params.toList args.toList ds p := hA0
  rw [Try.params6] at hA hval
  obtain ⟨v0, vs0, d0, ds0, p0, q0, hargs, rfl, rfl, h0, r0⟩ := trodAll_cons hA
  obtain ⟨v1, vs1, d1, ds1, p1, q1, rfl, rfl, rfl, h1, r1⟩ := trodAll_cons r0
  obtain ⟨v2, vs2, d2, ds2, p2, q2, rfl, rfl, rfl, h2, r2⟩ := trodAll_cons r1
  obtain ⟨rfl, rfl, rfl⟩ := trodAll_nil r2
  obtain rfl : args = #[v0, v1, v2] := by cases args; simp_all
  obtain ⟨rfl, rfl⟩ := trodVars_none hV
  obtain ⟨a0, rfl, rfl, _, w0⟩ := open_int Try.underlying3 (hval 0 3 v0 rfl rfl) h0
  obtain ⟨a1, rfl, rfl, _, w1⟩ := open_int Try.underlying3 (hval 1 3 v1 rfl rfl) h1
  obtain ⟨a2, rfl, rfl, _, w2⟩ := open_int Try.underlying3 (hval 2 3 v2 rfl rfl) h2
  refine (walk a0 a1 a2 W).mono fun e W' ⟨he, hg⟩ => ?_
  subst he
  exact ⟨_, rfl, law_post laidOut (of_decide_eq_true (by kernel_rfl)) rfl Try.underlying4 rfl ⟨rfl, rfl, rfl⟩ hW' hg⟩

theorem over : Rows.timerApartRow.holds Try.pinned (OpenSpec.ofChange Rows.timerApartSpec) :=
  OpenClaim.holds_of_wide 6 Try.f6 rfl rfl rfl rfl rfl rfl rfl ⟨rfl, rfl, rfl, rfl, rfl⟩ rfl rfl rfl rfl rfl (by kernel_rfl) Try.func6 (by kernel_rfl)
    (of_decide_eq_true (by kernel_rfl)) (by unfold Func.isWrapper; first | (rw [if_pos (by decide +kernel)]; kernel_rfl) | (rw [if_neg (by decide +kernel)]; exact ⟨rfl, rfl⟩))
    (fun os started H enc _ => lifted os started H enc)

theorem proved : Rows.TimerApartSaid :=
  over
#print axioms proved
end Go.Proofs.Ytpmnmjoefkbjkaa.timerApart
