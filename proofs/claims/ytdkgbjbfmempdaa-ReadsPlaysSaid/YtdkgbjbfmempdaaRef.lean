/-
  The reference's once, Count and Won, each walked once: on lists of ints of any length that memory holds.
-/
import Derived.Test.YtdkgbjbfmempdaaLem
namespace Go.Proofs.Ytdkgbjbfmempdaa
open Go.ChangeShapes Go.WideShapes Go.ChangeAt Go.RowKit Go.Deep
set_option linter.unusedVariables false

/-- What 'once' answers: a list of the call's own. -/
def OnceIs (zs : List Int) (w : World) (e : Ending) (w' : World) : Prop := ∃ a cap, e = .returned (.slice a (once zs).length cap) ∧ Ints w' a (once zs) ∧ Kp (fun _ => False) w w'

set_option maxHeartbeats 4000000 in
theorem once_ref {w : World} {x : Option Addr} {zs : List Int} (hI : Ints w x zs) (mx : zs.length ≤ 17592186043904) (cx : Nat) :
    Calls Try.prog 39 #[.slice x zs.length cx] w (OnceIs zs w) := by
  have HX := Lib.hid hI
  clear hI
  go_enter Try.func39, Try.ntmps39
  go_wp2_with fail
  go_loopw [3, 4] (fun o i wr => ∃ (k : Nat) (a : Option Addr) (cap : Nat), i = .int .i64 k ∧ k ≤ zs.length ∧ o = .slice a (once (zs.take k)).length cap ∧ Owns wr w.heap.size 3 1 a (once (zs.take k)).length cap ((once (zs.take k)).map (Value.int .i64)) ∧ Kp (fun _ => False) w wr) (fun _ i _ => zs.length - (intOf i).toNat)
  case atStart => exact ⟨0, none, 0, rfl, Nat.zero_le _, rfl, by simpa [once] using Owns.nil w w.heap.size 3 1, Kp.refl _ _⟩
  case round =>
    obtain ⟨k, a, cap, rfl, hk, rfl, ho, hK⟩ := hrel
    have hkl : (once (zs.take k)).length ≤ k := Nat.le_trans (once_length _) (List.length_take_le ..)
    by_cases hlt : k < zs.length
    · obtain ⟨b, off, rfl, hc⟩ := (HX.out.no hK).at hlt
      have hO := once_take zs k hlt
      have hmem : ∀ z, z ∈ once (zs.take k) ↔ z ∈ zs.take k := fun z => mem_once _ z
      obtain ⟨z, hz⟩ : ∃ z, z = zs.getD k 0 := ⟨_, rfl⟩
      rw [← hz] at hc hO
      have HZ := Lib.hid hz
      have HO := Lib.hid hO
      have hmz := hmem z
      have HMZ := Lib.hid hmz
      clear hz hO hmem hmz
      generalize hol : once (zs.take k) = ol at ho HO HMZ hkl ⊢
      clear hol
      obtain ⟨nl, hnl⟩ : ∃ nl, nl = ol.length := ⟨_, rfl⟩
      rw [← hnl] at ho hkl ⊢
      have HNL := Lib.hid hnl
      clear hnl
      have hkI : (k : Int) < (zs.length : Int) := by omega
      have hk0 : (0 : Int) ≤ (k : Int) := by omega
      go_wp2_with fail
      go_loopw [5, 6] (fun s i w2 => ∃ m : Nat, i = .int .i64 m ∧ m ≤ k ∧ s = .bool (decide (z ∈ zs.take m)) ∧ Owns w2 w.heap.size 3 1 a nl cap (ol.map (Value.int .i64)) ∧ Kp (fun _ => False) w w2) (fun _ i _ => k - (intOf i).toNat)
      case atStart => exact ⟨0, rfl, Nat.zero_le _, by simp, ho, hK⟩
      case round =>
        clear ho hK hc
        obtain ⟨m, rfl, hm, rfl, ho, hK⟩ := hrel
        obtain ⟨_, _, e0, hc⟩ := (HX.out.no hK).at hlt
        cases e0
        rw [← HZ.out] at hc
        by_cases hlm : m < k
        · have hlm' : m < zs.length := by omega
          obtain ⟨_, _, e0, hc2⟩ := (HX.out.no hK).at hlm'
          cases e0
          have hst := mem_take_succ zs m hlm' z
          generalize zs.getD m 0 = q at hst hc2
          generalize decide (z ∈ zs.take m) = sb at hst ⊢
          have HST := Lib.hid hst
          clear hst
          have hmI : (m : Int) < (zs.length : Int) := by omega
          have hm0 : (0 : Int) ≤ (m : Int) := by omega
          cases sb
          all_goals
            go_wp2_with fail
            go_quiet (fail)
            go_wp2
            go_roundw
            case rel => first | exact ⟨m + 1, by go_num, by omega, by rw [HST.out]; simp, ho, hK.drewN _⟩ | ((repeat apply Exists.intro); exact ⟨⟨m + 1, by go_num, by omega, by rw [HST.out]; simp, ho, hK.drewN _⟩, rfl⟩)
            case measure => simp [intOf]; omega
        · obtain rfl : m = k := by omega
          by_cases hin : z ∈ zs.take m
          · rw [decide_eq_true hin]
            have e1 : once (zs.take (m + 1)) = ol := by rw [HO.out]; unfold addm; rw [if_pos (HMZ.out.2 hin)]
            have E1 := Lib.hid e1
            clear e1 hin
            go_wp2_with fail
            go_roundw
            case rel => first | exact ⟨m + 1, a, cap, by go_num, by omega, by rw [E1.out, HNL.out], by rw [E1.out, ← HNL.out]; exact ho, hK⟩ | ((repeat apply Exists.intro); exact ⟨⟨m + 1, a, cap, by go_num, by omega, by rw [E1.out, HNL.out], by rw [E1.out, ← HNL.out]; exact ho, hK⟩, rfl⟩)
            case measure => simp [intOf]; omega
          · rw [decide_eq_false hin]
            have e1 : once (zs.take (m + 1)) = ol ++ [z] := by rw [HO.out]; unfold addm; rw [if_neg (fun h => hin (HMZ.out.1 h))]
            have E1 := Lib.hid e1
            clear e1 hin
            have hsz := hK.size
            go_wp2_with (at_builtin; refine Stop.mk ?_)
            unfold Stop
            refine wpList_app rfl _ _ 23 rfl w.heap.size 3 info3 Try.underlying23 rfl (by decide) rfl (Owns.kp ho ((Kp.refl (fun _ => False) _).alloc _) (fun _ _ h => h)) rfl (news := [z].map (Value.int .i64)) (by simp) (fun j u hu => ⟨_, rfl, ?c1⟩) (one_int _) (by unfold maxLen; omega) (by omega) (by simp; omega) ?_
            case c1 =>
              match j, hu with
              | 0, hu => simp at hu; subst hu; simp [Addr.add]
              | j + 1, hu => simp at hu
            intro a' cap' w3 ho3 hk3
            have hK3 : Kp (fun _ => False) w w3 := (hK.alloc _).andThen hk3 (fun i hi e => by have := Owns.from ho e.symm; omega)
            rw [← List.map_append] at ho3
            clear hk3 ho hsz
            go_wp2
            go_roundw
            case rel => first | exact ⟨m + 1, a', cap', by go_num, by omega, by rw [E1.out]; simp [HNL.out], by rw [E1.out]; simpa [HNL.out] using ho3, hK3⟩ | ((repeat apply Exists.intro); exact ⟨⟨m + 1, a', cap', by go_num, by omega, by rw [E1.out]; simp [HNL.out], by rw [E1.out]; simpa [HNL.out] using ho3, hK3⟩, rfl⟩)
            case measure => simp [intOf]; omega
    · have e : zs.take k = zs := List.take_of_length_le (by omega)
      rw [e] at ho ⊢
      have HIo := Lib.hid (Owns.ints ho)
      clear ho e
      go_wp2_with fail
      go_ret
      exact ⟨a, cap, rfl, HIo.out, hK⟩

theorem among_take (l y : List Int) (k : Nat) (h : k < l.length) : among (l.take (k + 1)) y = among (l.take k) y + if l.getD k 0 ∈ y then 1 else 0 := by
  unfold among
  rw [List.take_succ_eq_append_getElem h, List.countP_append]
  simp only [List.getD, List.getElem?_eq_getElem h, Option.getD_some]
  congr 1
  by_cases h1 : l[k] ∈ y <;> simp [h1]

set_option maxHeartbeats 4000000 in
theorem count_ref {w : World} {x y : Option Addr} {zs ys : List Int} (hI : Ints w x zs) (hJ : Ints w y ys) (mx : zs.length ≤ 17592186043904) (my : ys.length ≤ 17592186043904) (cx cy : Nat) :
    Calls Try.prog 38 #[.slice x zs.length cx, .slice y ys.length cy] w fun e w' => e = .returned (.int .i64 (cnt zs ys)) ∧ Kp (fun _ => False) w w' := by
  have hol := once_length zs
  go_enter Try.func38, Try.ntmps38
  go_wp2_with fail
  refine (once_ref hI mx cx).mono ?_
  rintro e w1 ⟨a, cap, rfl, hL, hK1⟩
  obtain ⟨L, hLe⟩ : ∃ L, L = once zs := ⟨_, rfl⟩
  rw [← hLe] at hol hL ⊢
  have HLE := Lib.hid hLe
  clear hLe
  have HL := Lib.hid hL
  have HJ := Lib.hid (hJ.no hK1)
  clear hI hJ hL
  go_wp2_with fail
  go_loopw [5, 7] (fun c i wr => ∃ k : Nat, i = .int .i64 k ∧ k ≤ L.length ∧ c = .int .i64 (among (L.take k) ys) ∧ Kp (fun _ => False) w1 wr) (fun _ i _ => L.length - (intOf i).toNat)
  case atStart => exact ⟨0, rfl, Nat.zero_le _, by simp [among], Kp.refl _ _⟩
  case round =>
    obtain ⟨k, rfl, hk, rfl, hK⟩ := hrel
    have hal := among_le (L.take k) ys
    rw [List.length_take] at hal
    by_cases hlt : k < L.length
    · obtain ⟨b, off, rfl, hc⟩ := (HL.out.no hK).at hlt
      have ht := among_take L ys k hlt
      obtain ⟨z, hz⟩ : ∃ z, z = L.getD k 0 := ⟨_, rfl⟩
      rw [← hz] at hc ht
      have HZ := Lib.hid hz
      clear hz
      obtain ⟨nn, hnn⟩ : ∃ nn, nn = among (L.take k) ys := ⟨_, rfl⟩
      rw [← hnn] at ht hal ⊢
      have HT := Lib.hid ht
      clear ht hnn
      have hnl : nn ≤ 17592186043904 := by omega
      clear hal
      have hkI : (k : Int) < (L.length : Int) := by omega
      have hk0 : (0 : Int) ≤ (k : Int) := by omega
      go_wp2_with fail
      go_loopw [8, 9] (fun s i w2 => ∃ m : Nat, i = .int .i64 m ∧ m ≤ ys.length ∧ s = .bool (decide (z ∈ ys.take m)) ∧ Kp (fun _ => False) w1 w2) (fun _ i _ => ys.length - (intOf i).toNat)
      case atStart => exact ⟨0, rfl, Nat.zero_le _, by simp, hK⟩
      case round =>
        clear hK hc
        obtain ⟨m, rfl, hm, rfl, hK⟩ := hrel
        obtain ⟨_, _, e0, hc⟩ := (HL.out.no hK).at hlt
        cases e0
        rw [← HZ.out] at hc
        by_cases hlm : m < ys.length
        · obtain ⟨_, _, rfl, hc2⟩ := (HJ.out.no hK).at hlm
          have hst := mem_take_succ ys m hlm z
          generalize ys.getD m 0 = q at hst hc2
          generalize decide (z ∈ ys.take m) = sb at hst ⊢
          have HST := Lib.hid hst
          clear hst
          have hmI : (m : Int) < (ys.length : Int) := by omega
          have hm0 : (0 : Int) ≤ (m : Int) := by omega
          cases sb
          all_goals
            go_wp2_with fail
            go_quiet (fail)
            go_wp2
            go_roundw
            case rel => first | exact ⟨m + 1, by go_num, by omega, by rw [HST.out]; simp, hK.drewN _⟩ | ((repeat apply Exists.intro); exact ⟨⟨m + 1, by go_num, by omega, by rw [HST.out]; simp, hK.drewN _⟩, rfl⟩)
            case measure => simp [intOf]; omega
        · have e : ys.take m = ys := List.take_of_length_le (by omega)
          rw [e]
          clear e
          by_cases hin : z ∈ ys
          · rw [decide_eq_true hin]
            have e1 : among (L.take (k + 1)) ys = nn + 1 := by rw [HT.out, if_pos hin]
            have E1 := Lib.hid e1
            clear e1 hin
            go_wp2_with fail
            go_roundw
            case rel => first | exact ⟨k + 1, by go_num, by omega, by rw [E1.out]; go_num, hK⟩ | ((repeat apply Exists.intro); exact ⟨⟨k + 1, by go_num, by omega, by rw [E1.out]; go_num, hK⟩, rfl⟩)
            case measure => simp [intOf]; omega
          · rw [decide_eq_false hin]
            have e1 : among (L.take (k + 1)) ys = nn := by rw [HT.out, if_neg hin]; rfl
            have E1 := Lib.hid e1
            clear e1 hin
            go_wp2_with fail
            go_roundw
            case rel => first | exact ⟨k + 1, by go_num, by omega, by rw [E1.out], hK⟩ | ((repeat apply Exists.intro); exact ⟨⟨k + 1, by go_num, by omega, by rw [E1.out], hK⟩, rfl⟩)
            case measure => simp [intOf]; omega
    · have e : L.take k = L := List.take_of_length_le (by omega)
      rw [e]
      clear e
      go_wp2_with fail
      go_ret
      refine ⟨?_, hK1.andThen hK (fun _ _ h => h)⟩
      show Ending.returned (.int .i64 _) = _
      unfold cnt
      rw [← HLE.out]

theorem won_ref {w : World} {x y : Option Addr} {zs ys : List Int} (hI : Ints w x zs) (hJ : Ints w y ys) (mx : zs.length ≤ 17592186043904) (my : ys.length ≤ 17592186043904) (cx cy : Nat) :
    Calls Try.prog 37 #[.slice x zs.length cx, .slice y ys.length cy] w fun e w' => e = .returned (.bool (won zs ys)) ∧ Kp (fun _ => False) w w' := by
  have hl := once_length zs
  have hc : cnt zs ys ≤ (once zs).length := among_le _ _
  go_enter Try.func37, Try.ntmps37
  go_wp2_with fail
  refine (count_ref hI hJ mx my cx cy).mono ?_
  rintro e w1 ⟨rfl, hk1⟩
  go_wp2_with fail
  refine (once_ref (hI.no hk1) mx cx).mono ?_
  rintro e w2 ⟨a, cap, rfl, hL, hk2⟩
  have hk := hk1.andThen hk2 (fun _ _ h => h)
  clear hL hI hJ hk1 hk2
  go_wp2
  go_ret
  refine ⟨?_, hk⟩
  show Ending.returned (.bool _) = _
  unfold won
  congr 2
  rw [decide_eq_decide]
  omega
end Go.Proofs.Ytdkgbjbfmempdaa
