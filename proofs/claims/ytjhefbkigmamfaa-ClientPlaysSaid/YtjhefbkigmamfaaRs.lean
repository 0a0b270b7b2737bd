/-
  Which servers are right, in the program and in the document: each walked once. The list is as long as memory lets it be.
-/
import Derived.Test.YtjhefbkigmamfaaCg
namespace Go.Proofs.Ytjhefbkigmamfaa
open Go.ChangeShapes Go.WideShapes Go.ChangeAt Go.RowKit
set_option linter.unusedVariables false

/-- A server that is not right at its place. -/
def badAt (zs : List Int) (i : Nat) : Bool := decide (zs.getD i 0 < 0) || decide (16 ≤ zs.getD i 0) || (decide (0 < i) && decide (zs.getD i 0 ≤ zs.getD (i - 1) 0))
def rightS (zs : List Int) : Bool := (List.range zs.length).all (fun i => !badAt zs i) && (decide (1 ≤ zs.length) && decide (zs.length ≤ 7))
theorem right_bad {zs : List Int} {i : Nat} (hi : i < zs.length) (h : badAt zs i = true) : rightS zs = false := by
  have : (List.range zs.length).all (fun i => !badAt zs i) = false := by
    rw [List.all_eq_false]
    exact ⟨i, List.mem_range.2 hi, by simp [h]⟩
  unfold rightS
  rw [this, Bool.false_and]
theorem right_good {zs : List Int} (h : ∀ i, i < zs.length → badAt zs i = false) : rightS zs = (decide (1 ≤ zs.length) && decide (zs.length ≤ 7)) := by
  have : (List.range zs.length).all (fun i => !badAt zs i) = true := by
    rw [List.all_eq_true]
    intro i hi
    rw [h i (List.mem_range.1 hi)]
    rfl
  unfold rightS
  rw [this, Bool.true_and]
theorem right_rising {zs : List Int} (h : rightS zs = true) : Rising zs ∧ 1 ≤ zs.length ∧ zs.length ≤ 7 := by
  unfold rightS at h
  simp only [Bool.and_eq_true, List.all_eq_true, decide_eq_true_eq] at h
  obtain ⟨h1, h2, h3⟩ := h
  refine ⟨fun i hi => ?_, h2, h3⟩
  have := h1 i (List.mem_range.2 hi)
  unfold badAt at this
  simp at this
  simp only [List.getD] at *
  refine ⟨by simpa using this.1.1, by simpa using this.1.2, fun h0 => by
    rcases this.2 with e | e
    · omega
    · simpa using e⟩

set_option maxHeartbeats 4000000 in
theorem right25 {w : World} {a : Option Addr} {zs : List Int} (hr : Row w a (ints zs)) (hm : zs.length ≤ 17592186043904) (c : Nat) :
    Calls Try.prog 25 #[.slice a zs.length c] w fun e w' => e = .returned (.bool (rightS zs)) ∧ Kp (fun _ => False) w w' := by
  have HR := Lib.hid hr
  obtain ⟨n, hn⟩ : ∃ n, n = zs.length := ⟨_, rfl⟩
  rw [← hn] at hm ⊢
  have HN := Lib.hid hn
  clear hr hn
  go_enter Try.func25, Try.ntmps25
  go_wp2_with fail
  go_loopw [6] (fun q wr => ∃ k : Nat, q = .int .i64 k ∧ k ≤ n ∧ (∀ i, i < k → badAt zs i = false) ∧ Kp (fun _ => False) w wr) (fun q _ => n - (intOf q).toNat)
  case atStart => exact ⟨0, rfl, Nat.zero_le _, fun i hi => absurd hi (Nat.not_lt_zero _), Kp.refl _ _⟩
  case round =>
    obtain ⟨k, rfl, hk, hg, hK⟩ := hrel
    have HG := Lib.hid hg
    clear hg
    by_cases hlt : k < n
    · have hk' : k < zs.length := by rw [← HN.out]; exact hlt
      obtain ⟨g, og, rfl, d1⟩ := (HR.out.no hK).int hk'
      have hkI : (k : Int) < (n : Int) := by omega
      have hk0 : (0 : Int) ≤ (k : Int) := by omega
      have hbad : badAt zs k = (decide (zs.getD k 0 < 0) || decide (16 ≤ zs.getD k 0) || (decide (0 < k) && decide (zs.getD k 0 ≤ zs.getD (k - 1) 0))) := rfl
      have HK' := Lib.hid hk'
      clear hk'
      by_cases h1 : zs.getD k 0 < 0
      · have hb : badAt zs k = true := by rw [hbad]; simp only [decide_eq_true h1, Bool.true_or]
        have HB := Lib.hid (right_bad HK'.out hb)
        clear hb hbad
        generalize zs.getD k 0 = z at d1 h1
        have z1 : decide (z < 0) = true := decide_eq_true h1
        clear h1
        go_wp2_with fail
        go_quiet (fail)
        go_wp2
        go_ret
        exact ⟨by rw [HB.out]; rfl, hK.drewN _⟩
      · by_cases h2 : 16 ≤ zs.getD k 0
        · have hb : badAt zs k = true := by rw [hbad]; simp only [decide_eq_true h2, Bool.true_or, Bool.or_true]
          have HB := Lib.hid (right_bad HK'.out hb)
          clear hb hbad
          generalize zs.getD k 0 = z at d1 h1 h2
          have z1 : decide (z < 0) = false := decide_eq_false h1
          have z2 : decide (16 ≤ z) = true := decide_eq_true h2
          clear h1 h2
          go_wp2_with fail
          go_quiet (fail)
          go_wp2
          go_ret
          exact ⟨by rw [HB.out]; rfl, hK.drewN _⟩
        · by_cases h3 : 0 < k
          · obtain ⟨i, rfl⟩ : ∃ i, k = i + 1 := ⟨k - 1, by omega⟩
            obtain ⟨_, _, eg, d2⟩ := (HR.out.no hK).int (show i < zs.length by have := HK'.out; omega)
            cases eg
            have e3 : (decide (0 < i + 1) && decide (zs.getD (i + 1) 0 ≤ zs.getD (i + 1 - 1) 0)) = decide (zs.getD (i + 1) 0 ≤ zs.getD i 0) := by simp
            rw [e3, decide_eq_false h1, decide_eq_false h2] at hbad
            have hi0 : (0 : Int) ≤ (i : Int) := by omega
            have hw1 : IntKind.i64.wrap ((i : Int) + 1 - 1) = (i : Int) := by rw [show (i : Int) + 1 - 1 = (i : Int) by omega]; exact IntWalk.i64_in _ (by omega)
            by_cases h4 : zs.getD (i + 1) 0 ≤ zs.getD i 0
            · have hb : badAt zs (i + 1) = true := by rw [hbad, decide_eq_true h4]; rfl
              have HB := Lib.hid (right_bad HK'.out hb)
              clear hb hbad e3
              generalize zs.getD (i + 1) 0 = z at d1 h1 h2 h4
              generalize zs.getD i 0 = y at d2 h4
              have z1 : decide (z < 0) = false := decide_eq_false h1
              have z2 : decide (16 ≤ z) = false := decide_eq_false h2
              have z4 : decide (z ≤ y) = true := decide_eq_true h4
              clear h1 h2 h4
              go_wp2_with fail
              go_quiet (fail)
              go_wp2
              go_ret
              exact ⟨by rw [HB.out]; rfl, hK.drewN _⟩
            · have hb : badAt zs (i + 1) = false := by rw [hbad, decide_eq_false h4]; rfl
              have hg2 : ∀ j, j < i + 1 + 1 → badAt zs j = false := fun j hj => by
                by_cases e : j = i + 1
                · rw [e]; exact hb
                · exact HG.out j (by omega)
              have HG2 := Lib.hid hg2
              clear hb hbad e3 hg2
              generalize zs.getD (i + 1) 0 = z at d1 h1 h2 h4
              generalize zs.getD i 0 = y at d2 h4
              have z1 : decide (z < 0) = false := decide_eq_false h1
              have z2 : decide (16 ≤ z) = false := decide_eq_false h2
              have z4 : decide (z ≤ y) = false := decide_eq_false h4
              clear h1 h2 h4
              go_wp2_with fail
              go_quiet (fail)
              go_wp2
              go_roundw
              case rel => first | exact ⟨i + 1 + 1, by go_num, by omega, HG2.out, hK.drewN _⟩ | ((repeat apply Exists.intro); exact ⟨⟨i + 1 + 1, by go_num, by omega, HG2.out, hK.drewN _⟩, rfl⟩)
              case measure => simp [intOf]; omega
          · obtain rfl : k = 0 := by omega
            rw [Nat.add_zero] at d1
            have hb : badAt zs 0 = false := by rw [hbad, decide_eq_false h1, decide_eq_false h2]; rfl
            have hg2 : ∀ j, j < 0 + 1 → badAt zs j = false := fun j hj => by
              obtain rfl : j = 0 := by omega
              exact hb
            have HG2 := Lib.hid hg2
            clear hb hbad hg2 h3
            generalize zs.getD 0 0 = z at d1 h1 h2
            have z1 : decide (z < 0) = false := decide_eq_false h1
            have z2 : decide (16 ≤ z) = false := decide_eq_false h2
            clear h1 h2
            go_wp2_with fail
            go_quiet (fail)
            go_wp2
            go_roundw
            case rel => first | exact ⟨0 + 1, by go_num, by omega, HG2.out, hK.drewN _⟩ | ((repeat apply Exists.intro); exact ⟨⟨0 + 1, by go_num, by omega, HG2.out, hK.drewN _⟩, rfl⟩)
            case measure => simp [intOf]; omega
    · obtain rfl : k = n := by omega
      have hr := right_good (zs := zs) (fun i hi => HG.out i (by rw [HN.out]; exact hi))
      rw [← HN.out] at hr
      have HRR := Lib.hid hr
      clear hr
      by_cases h1 : 1 ≤ k
      · by_cases h2 : k ≤ 7
        · have z1 : (1 : Int) ≤ (k : Int) := by omega
          have z2 : (k : Int) ≤ 7 := by omega
          go_wp2_with fail
          go_ret
          exact ⟨by rw [HRR.out, decide_eq_true h1, decide_eq_true h2]; rfl, hK⟩
        · have z1 : (1 : Int) ≤ (k : Int) := by omega
          have z2 : ¬ (k : Int) ≤ 7 := by omega
          go_wp2_with fail
          go_ret
          exact ⟨by rw [HRR.out, decide_eq_true h1, decide_eq_false h2]; rfl, hK⟩
      · have z1 : ¬ (1 : Int) ≤ (k : Int) := by omega
        go_wp2_with fail
        go_ret
        exact ⟨by rw [HRR.out, decide_eq_false h1]; rfl, hK⟩

set_option maxHeartbeats 4000000 in
theorem right35 {w : World} {a : Option Addr} {zs : List Int} (hr : Row w a (ints zs)) (hm : zs.length ≤ 17592186043904) (c : Nat) :
    Calls Try.prog 35 #[.slice a zs.length c] w fun e w' => e = .returned (.bool (rightS zs)) ∧ Kp (fun _ => False) w w' := by
  have HR := Lib.hid hr
  obtain ⟨n, hn⟩ : ∃ n, n = zs.length := ⟨_, rfl⟩
  rw [← hn] at hm ⊢
  have HN := Lib.hid hn
  clear hr hn
  go_enter Try.func35, Try.ntmps35
  go_wp2_with fail
  go_loopw [3] (fun q wr => ∃ k : Nat, q = .int .i64 k ∧ k ≤ n ∧ (∀ i, i < k → badAt zs i = false) ∧ Kp (fun _ => False) w wr) (fun q _ => n - (intOf q).toNat)
  case atStart => exact ⟨0, rfl, Nat.zero_le _, fun i hi => absurd hi (Nat.not_lt_zero _), Kp.refl _ _⟩
  case round =>
    obtain ⟨k, rfl, hk, hg, hK⟩ := hrel
    have HG := Lib.hid hg
    clear hg
    by_cases hlt : k < n
    · have hk' : k < zs.length := by rw [← HN.out]; exact hlt
      obtain ⟨g, og, rfl, d1⟩ := (HR.out.no hK).int hk'
      have hkI : (k : Int) < (n : Int) := by omega
      have hk0 : (0 : Int) ≤ (k : Int) := by omega
      have hbad : badAt zs k = (decide (zs.getD k 0 < 0) || decide (16 ≤ zs.getD k 0) || (decide (0 < k) && decide (zs.getD k 0 ≤ zs.getD (k - 1) 0))) := rfl
      have HK' := Lib.hid hk'
      clear hk'
      by_cases h1 : zs.getD k 0 < 0
      · have hb : badAt zs k = true := by rw [hbad]; simp only [decide_eq_true h1, Bool.true_or]
        have HB := Lib.hid (right_bad HK'.out hb)
        clear hb hbad
        generalize zs.getD k 0 = z at d1 h1
        have z1 : decide (z < 0) = true := decide_eq_true h1
        clear h1
        go_wp2_with fail
        go_quiet (fail)
        go_wp2
        go_ret
        exact ⟨by rw [HB.out]; rfl, hK.drewN _⟩
      · by_cases h2 : 16 ≤ zs.getD k 0
        · have hb : badAt zs k = true := by rw [hbad]; simp only [decide_eq_true h2, Bool.true_or, Bool.or_true]
          have HB := Lib.hid (right_bad HK'.out hb)
          clear hb hbad
          generalize zs.getD k 0 = z at d1 h1 h2
          have z1 : decide (z < 0) = false := decide_eq_false h1
          have z2 : decide (16 ≤ z) = true := decide_eq_true h2
          clear h1 h2
          go_wp2_with fail
          go_quiet (fail)
          go_wp2
          go_ret
          exact ⟨by rw [HB.out]; rfl, hK.drewN _⟩
        · by_cases h3 : 0 < k
          · obtain ⟨i, rfl⟩ : ∃ i, k = i + 1 := ⟨k - 1, by omega⟩
            obtain ⟨_, _, eg, d2⟩ := (HR.out.no hK).int (show i < zs.length by have := HK'.out; omega)
            cases eg
            have e3 : (decide (0 < i + 1) && decide (zs.getD (i + 1) 0 ≤ zs.getD (i + 1 - 1) 0)) = decide (zs.getD (i + 1) 0 ≤ zs.getD i 0) := by simp
            rw [e3, decide_eq_false h1, decide_eq_false h2] at hbad
            have hi0 : (0 : Int) ≤ (i : Int) := by omega
            have hw1 : IntKind.i64.wrap ((i : Int) + 1 - 1) = (i : Int) := by rw [show (i : Int) + 1 - 1 = (i : Int) by omega]; exact IntWalk.i64_in _ (by omega)
            by_cases h4 : zs.getD (i + 1) 0 ≤ zs.getD i 0
            · have hb : badAt zs (i + 1) = true := by rw [hbad, decide_eq_true h4]; rfl
              have HB := Lib.hid (right_bad HK'.out hb)
              clear hb hbad e3
              generalize zs.getD (i + 1) 0 = z at d1 h1 h2 h4
              generalize zs.getD i 0 = y at d2 h4
              have z1 : decide (z < 0) = false := decide_eq_false h1
              have z2 : decide (16 ≤ z) = false := decide_eq_false h2
              have z4 : decide (z ≤ y) = true := decide_eq_true h4
              clear h1 h2 h4
              go_wp2_with fail
              go_quiet (fail)
              go_wp2
              go_ret
              exact ⟨by rw [HB.out]; rfl, hK.drewN _⟩
            · have hb : badAt zs (i + 1) = false := by rw [hbad, decide_eq_false h4]; rfl
              have hg2 : ∀ j, j < i + 1 + 1 → badAt zs j = false := fun j hj => by
                by_cases e : j = i + 1
                · rw [e]; exact hb
                · exact HG.out j (by omega)
              have HG2 := Lib.hid hg2
              clear hb hbad e3 hg2
              generalize zs.getD (i + 1) 0 = z at d1 h1 h2 h4
              generalize zs.getD i 0 = y at d2 h4
              have z1 : decide (z < 0) = false := decide_eq_false h1
              have z2 : decide (16 ≤ z) = false := decide_eq_false h2
              have z4 : decide (z ≤ y) = false := decide_eq_false h4
              clear h1 h2 h4
              go_wp2_with fail
              go_quiet (fail)
              go_wp2
              go_roundw
              case rel => first | exact ⟨i + 1 + 1, by go_num, by omega, HG2.out, hK.drewN _⟩ | ((repeat apply Exists.intro); exact ⟨⟨i + 1 + 1, by go_num, by omega, HG2.out, hK.drewN _⟩, rfl⟩)
              case measure => simp [intOf]; omega
          · obtain rfl : k = 0 := by omega
            rw [Nat.add_zero] at d1
            have hb : badAt zs 0 = false := by rw [hbad, decide_eq_false h1, decide_eq_false h2]; rfl
            have hg2 : ∀ j, j < 0 + 1 → badAt zs j = false := fun j hj => by
              obtain rfl : j = 0 := by omega
              exact hb
            have HG2 := Lib.hid hg2
            clear hb hbad hg2 h3
            generalize zs.getD 0 0 = z at d1 h1 h2
            have z1 : decide (z < 0) = false := decide_eq_false h1
            have z2 : decide (16 ≤ z) = false := decide_eq_false h2
            clear h1 h2
            go_wp2_with fail
            go_quiet (fail)
            go_wp2
            go_roundw
            case rel => first | exact ⟨0 + 1, by go_num, by omega, HG2.out, hK.drewN _⟩ | ((repeat apply Exists.intro); exact ⟨⟨0 + 1, by go_num, by omega, HG2.out, hK.drewN _⟩, rfl⟩)
            case measure => simp [intOf]; omega
    · obtain rfl : k = n := by omega
      have hr := right_good (zs := zs) (fun i hi => HG.out i (by rw [HN.out]; exact hi))
      rw [← HN.out] at hr
      have HRR := Lib.hid hr
      clear hr
      by_cases h1 : 1 ≤ k
      · by_cases h2 : k ≤ 7
        · have z1 : (1 : Int) ≤ (k : Int) := by omega
          have z2 : (k : Int) ≤ 7 := by omega
          go_wp2_with fail
          go_ret
          exact ⟨by rw [HRR.out, decide_eq_true h1, decide_eq_true h2]; rfl, hK⟩
        · have z1 : (1 : Int) ≤ (k : Int) := by omega
          have z2 : ¬ (k : Int) ≤ 7 := by omega
          go_wp2_with fail
          go_ret
          exact ⟨by rw [HRR.out, decide_eq_true h1, decide_eq_false h2]; rfl, hK⟩
      · have z1 : ¬ (1 : Int) ≤ (k : Int) := by omega
        go_wp2_with fail
        go_ret
        exact ⟨by rw [HRR.out, decide_eq_false h1]; rfl, hK⟩

end Go.Proofs.Ytjhefbkigmamfaa
