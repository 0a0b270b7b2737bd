/-
  VoteMeet: for every three lists of ints the law returns true and leaves its arguments as they were. No condition.
-/
import Derived.Test.YthpplmplfamjhaaIl
namespace Go.Proofs.Ythpplmplfamjhaa.voteMeet
open Go.ChangeShapes Go.WideShapes Go.ChangeAt Go.RowKit Go.Deep
set_option linter.unusedVariables false

theorem among_two (a b : List Int) : ∀ l : List Int, among l a + among l b ≤ l.length + l.countP (fun x => decide (x ∈ a) && decide (x ∈ b))
  | [] => by simp [among]
  | x :: l => by
    have ih := among_two a b l
    rw [among_cons, among_cons, List.countP_cons, List.length_cons]
    by_cases h1 : x ∈ a <;> by_cases h2 : x ∈ b <;> simp [h1, h2] <;> omega
theorem meet {zs a b : List Int} (ha : won zs a = true) (hb : won zs b = true) : ∃ x ∈ zs, x ∈ a ∧ x ∈ b := by
  unfold won cnt at ha hb
  have h1 := of_decide_eq_true ha
  have h2 := of_decide_eq_true hb
  have h3 := among_two a b (once zs)
  have h4 : 0 < (once zs).countP (fun x => decide (x ∈ a) && decide (x ∈ b)) := by omega
  obtain ⟨x, hx, hp⟩ := List.countP_pos_iff.1 h4
  simp at hp
  exact ⟨x, (mem_once _ _).1 hx, hp⟩

theorem mem_take_succ (l : List Int) (k : Nat) (h : k < l.length) (z : Int) : decide (z ∈ l.take (k + 1)) = (decide (z ∈ l.take k) || (l.getD k 0 == z)) := by
  rw [List.take_succ_eq_append_getElem h, Bool.eq_iff_iff]
  simp only [List.mem_append, List.mem_singleton, decide_eq_true_eq, Bool.or_eq_true, beq_iff_eq]
  simp only [List.getD, List.getElem?_eq_getElem h, Option.getD_some]
  constructor
  · rintro (h1 | h1)
    · exact .inl h1
    · exact .inr h1.symm
  · rintro (h1 | h1)
    · exact .inl h1
    · exact .inr h1.symm

set_option maxHeartbeats 4000000 in
theorem walk (x : Option Addr) (zs : List Int) (cx : Nat) (y : Option Addr) (aa : List Int) (cy : Nat) (v : Option Addr) (bb : List Int) (cv : Nat) (W : World) (hx : Ints W x zs) (hy : Ints W y aa) (hv : Ints W v bb)
    (mx : zs.length ≤ 17592186043904) (my : aa.length ≤ 17592186043904) (mv : bb.length ≤ 17592186043904) :
    Calls Try.prog 6 #[.slice x zs.length cx, .slice y aa.length cy, .slice v bb.length cv] W fun e w' => e = .returned (.bool true) ∧ Below W.heap.size W w' := by
  have hmy : aa.length ≤ maxLen := by unfold maxLen; omega
  have hmv : bb.length ≤ maxLen := by unfold maxLen; omega
  have hwa := won_any hx hy (by omega) hmy cx cy
  have hmeet := @meet zs aa bb
  obtain ⟨wa, hwa'⟩ : ∃ b, b = won zs aa := ⟨_, rfl⟩
  obtain ⟨wb, hwb'⟩ : ∃ b, b = won zs bb := ⟨_, rfl⟩
  rw [← hwa'] at hwa hmeet
  rw [← hwb'] at hmeet
  have HWA := Lib.hid hwa
  have HWB := Lib.hid hwb'
  have HM := Lib.hid hmeet
  have HX := Lib.hid hx
  have HY := Lib.hid hy
  have HV := Lib.hid hv
  have HMV := Lib.hid hmv
  clear hwa hwa' hwb' hmeet hx hy hv hmy hmv
  cases wa with
  | false =>
    go_enter Try.func6, Try.ntmps6
    go_wp2_with (first | (go_at_call 18; refine HWA.out.mono ?_; rintro e w1 ⟨rfl, hk1⟩) | (go_at_call 15; refine (knows_any _).mono ?_; rintro e w5 ⟨rfl, hkk⟩))
    go_ret
    exact ⟨rfl, Kp.belowW (hk1.no.trans hkk.no)⟩
  | true =>
    go_enter Try.func6, Try.ntmps6
    go_wp2_with fail
    refine HWA.out.mono ?_
    rintro e w1 ⟨rfl, hk1⟩
    go_wp2_with fail
    have hw := won_any (HX.out.no hk1) (HV.out.no hk1) (by omega) HMV.out cx cv
    rw [← HWB.out] at hw
    refine hw.mono ?_
    clear hw
    rintro e w2 ⟨rfl, hk2⟩
    have hK : Kp (fun _ => False) W w2 := hk1.andThen hk2 (fun _ _ h => h)
    clear hk1 hk2
    cases wb with
    | false =>
      go_wp2_with (go_at_call 15; refine (knows_any _).mono ?_; rintro e w5 ⟨rfl, hkk⟩)
      go_ret
      exact ⟨rfl, Kp.belowW (hK.no.trans hkk.no)⟩
    | true =>
      go_wp2_with fail
      go_loopw [7] (fun i wr => ∃ k : Nat, i = .int .i64 k ∧ k ≤ zs.length ∧ (∀ j, j < k → ¬ (zs.getD j 0 ∈ aa ∧ zs.getD j 0 ∈ bb)) ∧ Kp (fun _ => False) W wr) (fun i _ => zs.length - (intOf i).toNat)
      case atStart => exact ⟨0, rfl, Nat.zero_le _, fun j hj => absurd hj (Nat.not_lt_zero _), hK⟩
      case round =>
        clear hK
        obtain ⟨k, rfl, hk, hno, hK⟩ := hrel
        have HNO := Lib.hid hno
        clear hno
        by_cases hlt : k < zs.length
        · obtain ⟨b, off, rfl, hc⟩ := (HX.out.no hK).at hlt
          obtain ⟨z, hz⟩ : ∃ z, z = zs.getD k 0 := ⟨_, rfl⟩
          rw [← hz] at hc
          have HZ := Lib.hid hz
          clear hz
          have hkI : (k : Int) < (zs.length : Int) := by omega
          have hk0 : (0 : Int) ≤ (k : Int) := by omega
          go_wp2_with fail
          go_loopw [8, 10] (fun s i wr => ∃ m : Nat, i = .int .i64 m ∧ m ≤ aa.length ∧ s = .bool (decide (z ∈ aa.take m)) ∧ Kp (fun _ => False) W wr) (fun _ i _ => aa.length - (intOf i).toNat)
          case atStart => exact ⟨0, rfl, Nat.zero_le _, by simp, hK⟩
          case round =>
            obtain ⟨m, rfl, hm, rfl, hK1⟩ := hrel
            by_cases hlm : m < aa.length
            · obtain ⟨b2, off2, rfl, hc2⟩ := (HY.out.no hK1).at hlm
              obtain ⟨_, _, e0, hc1⟩ := (HX.out.no hK1).at hlt
              cases e0
              rw [← HZ.out] at hc1
              have hst := mem_take_succ aa m hlm z
              generalize aa.getD m 0 = q at hst hc2
              generalize decide (z ∈ aa.take m) = sb at hst ⊢
              have HST := Lib.hid hst
              clear hst
              have hmI : (m : Int) < (aa.length : Int) := by omega
              have hm0 : (0 : Int) ≤ (m : Int) := by omega
              cases sb
              all_goals
                go_wp2_with fail
                go_quiet (fail)
                go_wp2
                go_roundw
                case rel => first | exact ⟨m + 1, by go_num, by omega, by rw [HST.out]; simp, hK1.drewN _⟩ | ((repeat apply Exists.intro); exact ⟨⟨m + 1, by go_num, by omega, by rw [HST.out]; simp, hK1.drewN _⟩, rfl⟩)
                case measure => simp [intOf]; omega
            · have e : aa.take m = aa := List.take_of_length_le (by omega)
              rw [e]
              clear e
              go_wp2_with fail
              go_loopw [9, 11] (fun s i wr => ∃ m : Nat, i = .int .i64 m ∧ m ≤ bb.length ∧ s = .bool (decide (z ∈ bb.take m)) ∧ Kp (fun _ => False) W wr) (fun _ i _ => bb.length - (intOf i).toNat)
              case atStart => exact ⟨0, rfl, Nat.zero_le _, by simp, hK1⟩
              case round =>
                obtain ⟨m, rfl, hm, rfl, hK2⟩ := hrel
                by_cases hlm : m < bb.length
                · obtain ⟨b2, off2, rfl, hc2⟩ := (HV.out.no hK2).at hlm
                  obtain ⟨_, _, e0, hc1⟩ := (HX.out.no hK2).at hlt
                  cases e0
                  rw [← HZ.out] at hc1
                  have hst := mem_take_succ bb m hlm z
                  generalize bb.getD m 0 = q at hst hc2
                  generalize decide (z ∈ bb.take m) = sb at hst ⊢
                  have HST := Lib.hid hst
                  clear hst
                  have hmI : (m : Int) < (bb.length : Int) := by omega
                  have hm0 : (0 : Int) ≤ (m : Int) := by omega
                  cases sb
                  all_goals
                    go_wp2_with fail
                    go_quiet (fail)
                    go_wp2
                    go_roundw
                    case rel => first | exact ⟨m + 1, by go_num, by omega, by rw [HST.out]; simp, hK2.drewN _⟩ | ((repeat apply Exists.intro); exact ⟨⟨m + 1, by go_num, by omega, by rw [HST.out]; simp, hK2.drewN _⟩, rfl⟩)
                    case measure => simp [intOf]; omega
                · have e : bb.take m = bb := List.take_of_length_le (by omega)
                  rw [e]
                  clear e
                  by_cases h1 : z ∈ aa
                  · rw [decide_eq_true h1]
                    by_cases h2 : z ∈ bb
                    · rw [decide_eq_true h2]
                      clear h1 h2
                      go_wp2_with (go_at_call 15; refine (knows_any _).mono ?_; rintro e w5 ⟨rfl, hkk⟩)
                      go_ret
                      exact ⟨rfl, Kp.belowW (hK2.no.trans hkk.no)⟩
                    · rw [decide_eq_false h2]
                      have HNO2 : ∀ j, j < k + 1 → ¬ (zs.getD j 0 ∈ aa ∧ zs.getD j 0 ∈ bb) := by
                        intro j hj
                        by_cases hjk : j = k
                        · subst hjk; rw [← HZ.out]; exact fun h => h2 h.2
                        · exact HNO.out j (by omega)
                      have HN2 := Lib.hid HNO2
                      clear HNO2 h1 h2
                      go_wp2
                      go_roundw
                      case rel => first | exact ⟨k + 1, by go_num, by omega, HN2.out, hK2⟩ | ((repeat apply Exists.intro); exact ⟨⟨k + 1, by go_num, by omega, HN2.out, hK2⟩, rfl⟩)
                      case measure => simp [intOf]; omega
                  · rw [decide_eq_false h1]
                    have HNO2 : ∀ j, j < k + 1 → ¬ (zs.getD j 0 ∈ aa ∧ zs.getD j 0 ∈ bb) := by
                      intro j hj
                      by_cases hjk : j = k
                      · subst hjk; rw [← HZ.out]; exact fun h => h1 h.1
                      · exact HNO.out j (by omega)
                    have HN2 := Lib.hid HNO2
                    clear HNO2 h1
                    go_wp2
                    go_roundw
                    case rel => first | exact ⟨k + 1, by go_num, by omega, HN2.out, hK2⟩ | ((repeat apply Exists.intro); exact ⟨⟨k + 1, by go_num, by omega, HN2.out, hK2⟩, rfl⟩)
                    case measure => simp [intOf]; omega
        · exfalso
          obtain ⟨q, hq, h1, h2⟩ := HM.out (by first | rfl | trivial) (by first | rfl | trivial)
          obtain ⟨j, hj, he⟩ := List.mem_iff_getElem.1 hq
          refine HNO.out j (by omega) ?_
          simp only [List.getD, List.getElem?_eq_getElem hj, Option.getD_some, he]
          exact ⟨h1, h2⟩

set_option maxRecDepth 100000 in
theorem lifted (os : Os) (started : os.Started) (H : Type) (enc : TypeId × Value → H) :
    ReturnsInHanded {} Try.checked os 6 .any (Rows.voteMeetSpec.pre6 enc Try.prog Try.f6 Rows.voteMeetRow.domain false) (Rows.voteMeetSpec.post enc Try.prog Try.f6 false true false false) := by
  refine returnsInHanded_of_change_sized (C := Try.checked) own started (by kernel_rfl) Try.func6
    (ChangeSpec.witness6 (enc := enc) (C := Try.checked) false ⟨#[], #[.slice none 0 0, .slice none 0 0, .slice none 0 0], []⟩ 8 (by kernel_rfl) (by kernel_rfl) (by kernel_rfl) (by kernel_rfl)) ?_
  intro W base args ds gs before hval0 hW _ hsz _
  have hval : ∀ (j : Nat) t v, Try.f6.params[j]? = some t → args[j]? = some v → Value.okWide Try.prog W .any base t v := hval0
  have hW' := hW
  obtain ⟨p, q, hA0, hV, rfl, hfz, hnd⟩ := hW
  have hA : DataW.TrodAll enc Try.prog W 0 (fun _ => true) true Try.f6.params.toList args.toList ds p := hA0
  rw [Try.params6] at hA hval
  obtain ⟨v0, vs0, d0, ds0, p0, q0, hargs, rfl, rfl, h0, r0⟩ := trodAll_cons hA
  obtain ⟨v1, vs1, d1, ds1, p1, q1, rfl, rfl, rfl, h1, r1⟩ := trodAll_cons r0
  obtain ⟨v2, vs2, d2, ds2, p2, q2, rfl, rfl, rfl, h2, r2⟩ := trodAll_cons r1
  obtain ⟨rfl, rfl, rfl⟩ := trodAll_nil r2
  obtain rfl : args = #[v0, v1, v2] := by cases args; simp_all
  obtain ⟨rfl, rfl⟩ := trodVars_none hV
  have o0 := hval 0 37 v0 rfl rfl
  have o1 := hval 1 37 v1 rfl rfl
  have o2 := hval 2 37 v2 rfl rfl
  obtain ⟨x, zs, cx, rfl, hx, lx⟩ := open_il o0 h0
  obtain ⟨y, aa, cy, rfl, hy, ly⟩ := open_il o1 h1
  obtain ⟨v, bb, cv, rfl, hv, lv⟩ := open_il o2 h2
  refine (walk x zs cx y aa cy v bb cv W hx hy hv (il_le hsz (j := 0) rfl rfl lx) (il_le hsz (j := 1) rfl rfl ly) (il_le hsz (j := 2) rfl rfl lv)).mono fun e W' ⟨he, hg⟩ => ?_
  subst he
  exact ⟨_, rfl, law_post laidOut (of_decide_eq_true (by kernel_rfl)) rfl Try.underlying4 rfl ⟨rfl, rfl, rfl⟩ hW' hg⟩

theorem over : Rows.voteMeetRow.holds Try.pinned (OpenSpec.ofChange Rows.voteMeetSpec) :=
  OpenClaim.holds_of_wide 6 Try.f6 rfl rfl rfl rfl rfl rfl rfl ⟨rfl, rfl, rfl, rfl, rfl⟩ rfl rfl rfl rfl rfl (by kernel_rfl) Try.func6 (by kernel_rfl)
    (of_decide_eq_true (by kernel_rfl)) (by unfold Func.isWrapper; first | (rw [if_pos (by decide +kernel)]; kernel_rfl) | (rw [if_neg (by decide +kernel)]; exact ⟨rfl, rfl⟩))
    (fun os started H enc _ => lifted os started H enc)

theorem proved : Rows.VoteMeetSaid :=
  over
#print axioms proved
end Go.Proofs.Ythpplmplfamjhaa.voteMeet
