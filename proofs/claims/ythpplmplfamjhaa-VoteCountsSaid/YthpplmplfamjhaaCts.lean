/-
  VoteCounts: for every two lists of ints the law returns true and leaves its arguments as they were. No condition.
-/
import Derived.Test.YthpplmplfamjhaaRef
namespace Go.Proofs.Ythpplmplfamjhaa.voteCounts
open Go.ChangeShapes Go.WideShapes Go.ChangeAt Go.RowKit Go.Deep
open voteMore (Owns.ints Ints.news one_int info3)
set_option linter.unusedVariables false

set_option maxHeartbeats 4000000 in
theorem walk (x : Option Addr) (zs : List Int) (cx : Nat) (y : Option Addr) (ys : List Int) (cy : Nat) (W : World) (hx : Ints W x zs) (hy : Ints W y ys)
    (mx : zs.length ≤ 17592186043904) (my : ys.length ≤ 17592186043904) :
    Calls Try.prog 4 #[.slice x zs.length cx, .slice y ys.length cy] W fun e w' => e = .returned (.bool true) ∧ Below W.heap.size W w' := by
  go_enter Try.func4, Try.ntmps4
  have hK0 : Kp (fun _ => False) W W := Kp.refl _ _
  go_wp2_with (at_builtin; refine Stop.mk ?_)
  unfold Stop
  refine wpList_app rfl _ _ 37 rfl W.heap.size 3 info3 Try.underlying37 rfl (by decide) rfl (Owns.lit (heap_new _ _) (by have := hK0.size; omega)) rfl (news := zs.map (Value.int .i64)) (by simp) (Ints.news (hx.no (hK0.alloc _))) (one_int _) (by unfold maxLen; omega) (by omega) (by have := hK0.size; simp <;> omega) ?_
  intro a1 c1 w1 ho1 hka1
  have hK1 : Kp (fun _ => False) W w1 := (hK0.alloc _).andThen hka1 (fun i hi e => by simp [blockOf] at e; have := hK0.size; omega)
  clear hka1
  simp only [Nat.zero_add, List.nil_append] at ho1 ⊢
  go_wp2_with (at_builtin; refine Stop.mk ?_)
  unfold Stop
  refine wpList_app rfl _ _ 37 rfl W.heap.size 3 info3 Try.underlying37 rfl (by decide) rfl (Owns.lit (heap_new _ _) (by have := hK1.size; omega)) rfl (news := ys.map (Value.int .i64)) (by simp) (Ints.news (hy.no (hK1.alloc _))) (one_int _) (by unfold maxLen; omega) (by omega) (by have := hK1.size; simp; omega) ?_
  intro a2 c2 w2 ho2 hka2
  have hK2 : Kp (fun _ => False) W w2 := (hK1.alloc _).andThen hka2 (fun i hi e => by simp [blockOf] at e; have := hK1.size; omega)
  have ho12 : Owns w2 W.heap.size 3 1 a1 zs.length c1 (zs.map (Value.int .i64)) := Owns.kp (Owns.kp ho1 ((Kp.refl (fun _ => False) _).alloc _) (fun _ _ h => h)) hka2 (fun b hb e => by simp [blockOf] at e; have := (Owns.from ho1 hb).2; omega)
  clear hka2
  simp only [Nat.zero_add, List.nil_append] at ho2 ⊢
  have hA := Owns.ints ho12
  have hB := Owns.ints ho2
  have hX := hx.no hK2
  have hY := hy.no hK2
  clear ho1 ho12 ho2 hx hy hK0 hK1
  go_wp2_with fail
  refine (count_any hA hB (by unfold maxLen; omega) (by unfold maxLen; omega) c1 c2).mono ?_
  rintro e w3 ⟨rfl, hk3⟩
  go_wp2_with fail
  refine (count_ref (hX.no hk3) (hY.no hk3) mx my cx cy).mono ?_
  rintro e w4 ⟨rfl, hk4⟩
  have hk24 : Kp (fun _ => False) w2 w4 := hk3.andThen hk4 (fun _ _ h => h)
  clear hk3 hk4
  generalize cnt zs ys = n
  go_wp2_with fail
  refine (won_any (hA.no hk24) (hB.no hk24) (by omega) (by unfold maxLen; omega) c1 c2).mono ?_
  rintro e w5 ⟨rfl, hk5⟩
  have hk25 : Kp (fun _ => False) w2 w5 := hk24.andThen hk5 (fun _ _ h => h)
  go_wp2_with fail
  refine (won_ref (hX.no hk25) (hY.no hk25) mx my cx cy).mono ?_
  rintro e w6 ⟨rfl, hk6⟩
  have hk26 : Kp (fun _ => False) w2 w6 := hk25.andThen hk6 (fun _ _ h => h)
  clear hk24 hk5 hk25 hk6
  generalize won zs ys = p
  have HA := Lib.hid (hA.no hk26)
  have HX := Lib.hid (hX.no hk26)
  have hK6 : Kp (fun _ => False) W w6 := hK2.andThen hk26 (fun _ _ h => h)
  clear hA hB hX hY hk26 hK2
  go_wp2_with fail
  go_loopw [7, 8] (fun s i wr => ∃ k : Nat, i = .int .i64 k ∧ k ≤ zs.length ∧ s = .bool true ∧ Kp (fun _ => False) w6 wr) (fun _ i _ => zs.length - (intOf i).toNat)
  case atStart => exact ⟨0, rfl, Nat.zero_le _, by simp, Kp.refl _ _⟩
  case round =>
    obtain ⟨k, rfl, hk, rfl, hK⟩ := hrel
    by_cases hlt : k < zs.length
    · obtain ⟨b, off, rfl, hc⟩ := (HA.out.no hK).at hlt
      obtain ⟨b2, off2, rfl, hc2⟩ := (HX.out.no hK).at hlt
      generalize zs.getD k 0 = z at hc hc2
      have hkI : (k : Int) < (zs.length : Int) := by omega
      have hk0 : (0 : Int) ≤ (k : Int) := by omega
      go_wp2_with fail
      go_quiet (fail)
      go_wp2
      go_roundw
      case rel => first | exact ⟨k + 1, by go_num, by omega, by simp, hK.drewN _⟩ | ((repeat apply Exists.intro); exact ⟨⟨k + 1, by go_num, by omega, by simp, hK.drewN _⟩, rfl⟩)
      case measure => simp [intOf]; omega
    · go_wp2_with (go_at_call 15; refine (knows_any _).mono ?_; rintro e w7 ⟨rfl, hkk⟩)
      go_ret
      exact ⟨rfl, Kp.belowW ((hK6.andThen hK (fun _ _ h => h)).no.trans hkk.no)⟩

set_option maxRecDepth 100000 in
theorem lifted (os : Os) (started : os.Started) (H : Type) (enc : TypeId × Value → H) :
    ReturnsInHanded {} Try.checked os 4 .any (Rows.voteCountsSpec.pre6 enc Try.prog Try.f4 Rows.voteCountsRow.domain false) (Rows.voteCountsSpec.post enc Try.prog Try.f4 false true false false) := by
  refine returnsInHanded_of_change_sized (C := Try.checked) own started (by kernel_rfl) Try.func4
    (ChangeSpec.witness6 (enc := enc) (C := Try.checked) false ⟨#[], #[.slice none 0 0, .slice none 0 0], []⟩ 8 (by kernel_rfl) (by kernel_rfl) (by kernel_rfl) (by kernel_rfl)) ?_
  intro W base args ds gs before hval0 hW _ hsz _
  have hval : ∀ (j : Nat) t v, Try.f4.params[j]? = some t → args[j]? = some v → Value.okWide Try.prog W .any base t v := hval0
  have hW' := hW
  obtain ⟨p, q, hA0, hV, rfl, hfz, hnd⟩ := hW
  have hA : DataW.TrodAll enc Try.prog W 0 (fun _ => true) true Try.f4.params.toList args.toList ds p := hA0
  rw [Try.params4] at hA hval
  obtain ⟨v0, vs0, d0, ds0, p0, q0, hargs, rfl, rfl, h0, r0⟩ := trodAll_cons hA
  obtain ⟨v1, vs1, d1, ds1, p1, q1, rfl, rfl, rfl, h1, r1⟩ := trodAll_cons r0
  obtain ⟨rfl, rfl, rfl⟩ := trodAll_nil r1
  obtain rfl : args = #[v0, v1] := by cases args; simp_all
  obtain ⟨rfl, rfl⟩ := trodVars_none hV
  have o0 := hval 0 37 v0 rfl rfl
  have o1 := hval 1 37 v1 rfl rfl
  obtain ⟨x, zs, cx, rfl, hx, lx⟩ := open_il o0 h0
  obtain ⟨y, ys, cy, rfl, hy, ly⟩ := open_il o1 h1
  refine (walk x zs cx y ys cy W hx hy (il_le hsz (j := 0) rfl rfl lx) (il_le hsz (j := 1) rfl rfl ly)).mono fun e W' ⟨he, hg⟩ => ?_
  subst he
  exact ⟨_, rfl, law_post laidOut (of_decide_eq_true (by kernel_rfl)) rfl Try.underlying4 rfl ⟨rfl, rfl, rfl⟩ hW' hg⟩

theorem over : Rows.voteCountsRow.holds Try.pinned (OpenSpec.ofChange Rows.voteCountsSpec) :=
  OpenClaim.holds_of_wide 4 Try.f4 rfl rfl rfl rfl rfl rfl rfl ⟨rfl, rfl, rfl, rfl, rfl⟩ rfl rfl rfl rfl rfl (by kernel_rfl) Try.func4 (by kernel_rfl)
    (of_decide_eq_true (by kernel_rfl)) (by unfold Func.isWrapper; first | (rw [if_pos (by decide +kernel)]; kernel_rfl) | (rw [if_neg (by decide +kernel)]; exact ⟨rfl, rfl⟩))
    (fun os started H enc _ => lifted os started H enc)

theorem proved : Rows.VoteCountsSaid :=
  over
#print axioms proved
end Go.Proofs.Ythpplmplfamjhaa.voteCounts
