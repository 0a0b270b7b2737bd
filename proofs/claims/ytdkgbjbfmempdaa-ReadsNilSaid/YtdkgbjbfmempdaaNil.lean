/-
  ReadsNil: for every call the law returns true and leaves its argument as it was. No condition.
-/
import Derived.Test.YtdkgbjbfmempdaaNb
import Derived.Test.YtdkgbjbfmempdaaOp
namespace Go.Proofs.Ytdkgbjbfmempdaa.readsNil
open Go.ChangeShapes Go.WideShapes Go.ChangeAt Go.RowKit Go.Deep
set_option linter.unusedVariables false

set_option maxHeartbeats 4000000 in
theorem nil_walk (kind A B C : Int) (x : Option Addr) (n cx : Nat) (W : World) :
    Calls Try.prog 6 #[.agg #[.int .i64 kind, .int .i64 A, .int .i64 B, .int .i64 C, .slice x n cx]] W fun e w' => e = .returned (.bool true) ∧ Below W.heap.size W w' := by
  go_enter Try.func6, Try.ntmps6
  go_wp2_with fail
  go_loopw [3, 4] (fun p i wr => ∃ (k : Nat) (q : Option Addr), i = .int .i64 k ∧ k ≤ 2 ∧ p = .pointer q ∧ NB wr (.pointer q) ∧ wr.heap[W.heap.size]? = some (.cells #[.int .i64 kind, .int .i64 A, .int .i64 B, .int .i64 C, .slice x n cx] 32 (0, 0)) ∧ Kp (fun _ => False) W wr) (fun _ i _ => 2 - (intOf i).toNat)
  case atStart => exact ⟨0, none, rfl, by omega, rfl, NB.nil _, heap_new W _, (Kp.refl _ _).alloc _⟩
  case round =>
    obtain ⟨k, q, rfl, hk, rfl, hNB, hb, hK⟩ := hrel
    by_cases hlt : k < 2
    · have c1 := cell_of hb 1 (v := .int .i64 A) rfl
      have c2 := cell_of hb 2 (v := .int .i64 B) rfl
      have c3 := cell_of hb 3 (v := .int .i64 C) rfl
      have c4 := cell_of hb 4 (v := .slice x n cx) rfl
      have HB := Lib.hid hb
      have HN := Lib.hid hNB
      have HK := Lib.hid hK
      clear hb hNB hK
      have hkI : (k : Int) < 2 := by omega
      have hk0 : (0 : Int) ≤ (k : Int) := by omega
      go_wp2_with (first | (go_at_call 11; refine (ask_nb HN.out _ _ _).mono ?_; rintro e w1 ⟨rfl, rfl⟩) | (go_at_call 12; refine (heard_nb HN.out _ _).mono ?_; rintro e w2 ⟨rfl, rfl⟩) | (go_at_call 9; refine (num_any _ _).mono ?_; rintro e w3 ⟨rfl, rfl⟩) | (go_at_call 13; refine (ready_nb HN.out _ _ _).mono ?_; rintro e w4 ⟨rfl, hk4⟩) | (go_at_call 14; refine (waiting_nb (HN.out.no hk4)).mono ?_; rintro e w5 ⟨rfl, rfl⟩) | (go_at_call 17; refine (clear_nb (HN.out.no hk4)).mono ?_; rintro e w6 ⟨rfl, rfl⟩))
      go_roundw
      case rel => exact ⟨k + 1, some ⟨_, 0, none⟩, by go_num, by omega, rfl, NB.new (heap_new _ _) rfl, heap_old _ (hk4.heap HB.out (fun h => h)), (HK.out.andThen hk4 (fun _ _ h => h)).alloc _⟩
      case measure => simp [intOf]; omega
    · obtain rfl : k = 2 := by omega
      go_wp2_with (go_at_call 10; refine (knows_any _).mono ?_; rintro e w7 ⟨rfl, hkk⟩)
      go_ret
      exact ⟨rfl, (hK.andThen hkk (fun _ _ h => h)).no.belowW⟩

set_option maxRecDepth 100000 in
theorem lifted (os : Os) (started : os.Started) (H : Type) (enc : TypeId × Value → H) :
    ReturnsInHanded {} Try.checked os 6 .any (Rows.readsNilSpec.pre6 enc Try.prog Try.f6 Rows.readsNilRow.domain false) (Rows.readsNilSpec.post enc Try.prog Try.f6 false true false false) := by
  refine returnsInHanded_of_change (C := Try.checked) own started (by kernel_rfl) Try.func6
    (ChangeSpec.witness6 (enc := enc) (C := Try.checked) false ⟨#[], #[.agg #[.int .i64 0, .int .i64 0, .int .i64 0, .int .i64 0, .slice none 0 0]], []⟩ 8 (by kernel_rfl) (by kernel_rfl) (by kernel_rfl) (by kernel_rfl)) ?_
  intro W base args ds gs before hval0 hW _ _
  have hval : ∀ (j : Nat) t v, Try.f6.params[j]? = some t → args[j]? = some v → Value.okWide Try.prog W .any base t v := hval0
  have hW' := hW
  obtain ⟨p, q, hA0, hV, rfl, hfz, hnd⟩ := hW
  have hA : DataW.TrodAll enc Try.prog W 0 (fun _ => true) true Try.f6.params.toList args.toList ds p := hA0
  rw [Try.params6] at hA hval
  obtain ⟨v0, vs0, d0, ds0, p0, q0, hargs, rfl, rfl, h0, r0⟩ := trodAll_cons hA
  obtain ⟨rfl, rfl, rfl⟩ := trodAll_nil r0
  obtain rfl : args = #[v0] := by cases args; simp_all
  obtain ⟨rfl, rfl⟩ := trodVars_none hV
  obtain ⟨kind, A, B, C, x, zs, cx, rfl, _⟩ := open_op (hval 0 32 v0 rfl rfl) h0
  refine (nil_walk kind A B C x zs.length cx W).mono fun e W' ⟨he, hg⟩ => ?_
  subst he
  exact ⟨_, rfl, law_post laidOut (of_decide_eq_true (by kernel_rfl)) rfl Try.underlying4 rfl ⟨rfl, rfl, rfl⟩ hW' hg⟩

theorem over : Rows.readsNilRow.holds Try.pinned (OpenSpec.ofChange Rows.readsNilSpec) :=
  OpenClaim.holds_of_wide 6 Try.f6 rfl rfl rfl rfl rfl rfl rfl ⟨rfl, rfl, rfl, rfl, rfl⟩ rfl rfl rfl rfl rfl (by kernel_rfl) Try.func6 (by kernel_rfl)
    (of_decide_eq_true (by kernel_rfl)) (by unfold Func.isWrapper; first | (rw [if_pos (by decide +kernel)]; kernel_rfl) | (rw [if_neg (by decide +kernel)]; exact ⟨rfl, rfl⟩))
    (fun os started H enc _ => lifted os started H enc)

theorem proved : Rows.ReadsNilSaid :=
  over
#print axioms proved
end Go.Proofs.Ytdkgbjbfmempdaa.readsNil
