/-
  'same' on two lists of answers, walked once. No condition.
-/
import Derived.Test.YtdkgbjbfmempdaaRr
import Derived.Test.YtdkgbjbfmempdaaMd
namespace Go.Proofs.Ytdkgbjbfmempdaa
open Go.ChangeShapes Go.WideShapes Go.ChangeAt Go.RowKit Go.Deep
set_option linter.unusedVariables false

set_option maxHeartbeats 4000000 in
theorem same_any {w : World} {x y : Option Addr} {zs ys : List (Int × Int)} (hx : Answers w x zs) (hy : Answers w y ys) (mx : zs.length ≤ 17592186043904) (cx cy : Nat) :
    Calls Try.prog 29 #[.slice x zs.length cx, .slice y ys.length cy] w fun e w' => e = .returned (.bool (decide (zs = ys))) ∧ Kp (fun _ => False) w w' := by
  have HX := Lib.hid hx
  have HY := Lib.hid hy
  clear hx hy
  by_cases hlen : zs.length = ys.length
  · obtain ⟨n, hn⟩ : ∃ n, n = zs.length := ⟨_, rfl⟩
    have HL := Lib.hid hn.symm
    have HN := Lib.hid (hn.trans hlen)
    rw [← hlen, ← hn]
    rw [← hn] at mx
    clear hlen hn
    go_enter Try.func29, Try.ntmps29
    go_wp2_with fail
    go_loopw [5] (fun i wr => ∃ k : Nat, i = .int .i64 k ∧ k ≤ n ∧ zs.take k = ys.take k ∧ Kp (fun _ => False) w wr) (fun i _ => n - (intOf i).toNat)
    case atStart => exact ⟨0, rfl, Nat.zero_le _, rfl, Kp.refl _ _⟩
    case round =>
      obtain ⟨k, rfl, hk, ht, hK⟩ := hrel
      by_cases hlt : k < n
      · have l1 : k < zs.length := by rw [HL.out]; exact hlt
        have l2 : k < ys.length := by rw [← HN.out]; exact hlt
        obtain ⟨b1, rfl, c1, d1⟩ := (HX.out.no hK) k l1
        obtain ⟨b2, rfl, c2, d2⟩ := (HY.out.no hK) k l2
        have t1 : zs.take (k + 1) = zs.take k ++ [zs.getD k default] := by rw [List.take_succ_eq_append_getElem l1]; simp [List.getD, List.getElem?_eq_getElem l1]
        have t2 : ys.take (k + 1) = ys.take k ++ [ys.getD k default] := by rw [List.take_succ_eq_append_getElem l2]; simp [List.getD, List.getElem?_eq_getElem l2]
        have hne : zs.getD k default ≠ ys.getD k default → zs ≠ ys := fun h e => h (by rw [e])
        generalize zs.getD k default = z at c1 d1 t1 hne
        generalize ys.getD k default = y at c2 d2 t2 hne
        obtain ⟨z1, z2⟩ := z
        obtain ⟨y1, y2⟩ := y
        have hkI : (k : Int) < (n : Int) := by omega
        have hk0 : (0 : Int) ≤ (k : Int) := by omega
        by_cases h1 : z1 = y1
        · by_cases h2 : z2 = y2
          · subst h1
            subst h2
            have T1 := Lib.hid (t1.trans ((congrArg (· ++ [(z1, z2)]) ht).trans t2.symm))
            clear t1 t2 hne ht l1 l2
            go_wp2_with fail
            go_quiet (fail)
            go_wp2
            go_roundw
            case rel => first | exact ⟨k + 1, by go_num, by omega, T1.out, hK.drewN _⟩ | ((repeat apply Exists.intro); exact ⟨⟨k + 1, by go_num, by omega, T1.out, hK.drewN _⟩, rfl⟩)
            case measure => simp [intOf]; omega
          · have HNE := Lib.hid (hne (fun e => h2 (congrArg Prod.snd e)))
            have hzb : (z2 == y2) = false := by simpa using h2
            subst h1
            clear t1 t2 hne ht l1 l2 h2
            go_wp2_with fail
            go_quiet (fail)
            go_wp2
            go_ret
            exact ⟨by rw [decide_eq_false HNE.out]; rfl, hK.drewN _⟩
        · have HNE := Lib.hid (hne (fun e => h1 (congrArg Prod.fst e)))
          have hzb : (z1 == y1) = false := by simpa using h1
          have hzn : (z1 != y1) = true := by simp [h1]
          have hzv : Value.bool (z1 != y1) = Value.bool true := by rw [hzn]
          clear t1 t2 hne ht l1 l2 h1
          go_wp2_with fail
          go_quiet (fail)
          go_wp2
          go_ret
          exact ⟨by rw [decide_eq_false HNE.out]; rfl, hK.drewN _⟩
      · have e1 : zs.take k = zs := List.take_of_length_le (by rw [HL.out]; omega)
        have e2 : ys.take k = ys := List.take_of_length_le (by rw [← HN.out]; omega)
        rw [e1, e2] at ht
        have HT := Lib.hid ht
        clear e1 e2 ht
        go_wp2_with fail
        go_ret
        exact ⟨by rw [decide_eq_true HT.out]; rfl, hK⟩
  · have hne : zs ≠ ys := fun e => hlen (by rw [e])
    have HNE := Lib.hid hne
    have hl : ((zs.length : Int) == (ys.length : Int)) = false := by simpa using fun e => hlen (by omega)
    clear hne hlen
    go_enter Try.func29, Try.ntmps29
    go_wp2_with fail
    go_ret
    exact ⟨by rw [decide_eq_false HNE.out]; rfl, Kp.refl _ _⟩
end Go.Proofs.Ytdkgbjbfmempdaa
