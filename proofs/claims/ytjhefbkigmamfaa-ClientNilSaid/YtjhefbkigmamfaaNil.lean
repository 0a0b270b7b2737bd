/-
  ClientNil: for every call the law returns true and leaves its argument as it was. No condition.
-/
import Derived.Test.YtjhefbkigmamfaaNb
import Derived.Test.YtjhefbkigmamfaaKn
import Derived.Test.YtjhefbkigmamfaaAns
import Derived.Test.YtjhefbkigmamfaaOpn
namespace Go.Proofs.Ytjhefbkigmamfaa.clientNil
open Go.ChangeShapes Go.WideShapes Go.ChangeAt Go.RowKit Go.Deep
set_option linter.unusedVariables false

set_option maxRecDepth 100000 in
set_option maxHeartbeats 4000000 in
theorem nil_walk (x : OpE) (W : World) (hI : x.In W) (hS : x.Sz) :
    Calls Try.prog 7 #[.agg x.cells.toArray] W fun e w' => e = .returned (.bool true) ∧ Below W.heap.size W w' := by
  obtain ⟨kind, ⟨ok, of, om, oa, od, oc⟩, ⟨ai, ae, as_, an, ra, rl, rc, al⟩⟩ := x
  have hO := order_any (w := W) ok of om oa od oc
  have HD := Lib.hid hI.d
  have HR := Lib.hid hI.r
  have HI := Lib.hid (show ∀ r ∈ rl, Row W r.a (bytes r.d) ∧ r.d.length ≤ 140737488355328 from fun r hr => ⟨(hI.i r hr).1, by have := hS.i r hr; omega⟩)
  have HDM := Lib.hid (show od.length ≤ 140737488355328 from by have := hS.d; dsimp only at this; omega)
  have HRM := Lib.hid (show rl.length * 24 ≤ 140737488355328 from by have := hS.r; dsimp only at this; omega)
  clear hI hS hO
  dsimp only at HD HR
  unfold OpE.cells
  dsimp only
  go_enter Try.func7, Try.ntmps7
  go_wp2_with fail
  go_loopw [3, 4] (fun p i wr => ∃ (k : Nat) (q : Option Addr), i = .int .i64 k ∧ k ≤ 2 ∧ p = .pointer q ∧ NB wr (.pointer q) ∧ wr.heap[W.heap.size]? = some (.cells #[.int .i64 kind, .int .i64 ok, .int .i64 of, .int .i64 om, .slice oa od.length oc, .int .i64 ai, .int .i64 ae, .int .i64 as_, .int .i64 an, .int .i64 al, .slice ra rl.length rc] 58 (0, 0)) ∧ Kp (fun _ => False) W wr) (fun _ i _ => 2 - (intOf i).toNat)
  case atStart => exact ⟨0, none, rfl, by omega, rfl, NB.nil _, heap_new W _, (Kp.refl _ _).alloc _⟩
  case round =>
    obtain ⟨k, q, rfl, hk, rfl, hNB, hb, hK⟩ := hrel
    by_cases hlt : k < 2
    · have c1 := cell_of hb 1 (v := .int .i64 ok) rfl
      have HB := Lib.hid hb
      have HN := Lib.hid hNB
      have HK := Lib.hid hK
      clear hb hNB hK c1
      have hkI : (k : Int) < 2 := by omega
      have hk0 : (0 : Int) ≤ (k : Int) := by omega
      go_wp2_with fail
      refine (done_nb HN.out).mono ?_
      rintro e w1 ⟨rfl, hk1⟩
      have HB1 := Lib.hid (hk1.heap HB.out (fun h => h))
      have HN1 := Lib.hid (HN.out.no hk1)
      have HK1 := Lib.hid (HK.out.trans hk1)
      clear hk1 HB HN HK
      go_upto_region 6 with fail
      have hk2 := ((Kp.refl (fun _ => False) w1).alloc (.cells #[.int .i64 0, .int .i64 0, .int .i64 0, .slice none 0 0] 32)).alloc (.cells #[.int .i64 0, .int .i64 0, .int .i64 0, .int .i64 0, .slice none 0 0, .int .i64 0] 47)
      have hb2 := hk2.heap HB1.out (fun h => h)
      have HN2 := Lib.hid (HN1.out.no hk2)
      have HK2 := Lib.hid (HK1.out.trans hk2)
      clear hk2 HB1 HN1 HK1
      generalize (w1.alloc (.cells #[.int .i64 0, .int .i64 0, .int .i64 0, .slice none 0 0] 32)).alloc (.cells #[.int .i64 0, .int .i64 0, .int .i64 0, .int .i64 0, .slice none 0 0, .int .i64 0] 47) = w2 at hb2 HN2 HK2 ⊢
      have c1 := cell_of hb2 1 (v := .int .i64 ok) rfl
      have c2 := cell_of hb2 2 (v := .int .i64 of) rfl
      have c3 := cell_of hb2 3 (v := .int .i64 om) rfl
      have c4 := cell_of hb2 4 (v := .slice oa od.length oc) rfl
      have HB2 := Lib.hid hb2
      clear hb2
      go_wp2_with (go_at_call 17; refine (busy_nb HN2.out).mono ?_; rintro e w3 ⟨rfl, rfl⟩)
      refine (order_any ok of om oa od oc (HD.out.no HK2.out) HDM.out).mono ?_
      rintro e w4 ⟨na, nc, rfl, _, hk4⟩
      have HN4 := Lib.hid (HN2.out.no hk4)
      clear c1 c2 c3 c4
      go_wp2_with fail
      refine (do_nb HN4.out _ _ _ _ _ _).mono ?_
      rintro e w5 ⟨rfl, hk5⟩
      have HN5 := Lib.hid (HN4.out.no hk5)
      have hk45 := hk4.trans hk5
      have hb5 := hk45.heap HB2.out (fun h => h)
      have HK5 := Lib.hid (HK2.out.trans hk45)
      clear hk4 hk5 hk45 HN4 HN2 HB2 HK2
      have c5 := cell_of hb5 5 (v := .int .i64 ai) rfl
      have c6 := cell_of hb5 6 (v := .int .i64 ae) rfl
      have c7 := cell_of hb5 7 (v := .int .i64 as_) rfl
      have c8 := cell_of hb5 8 (v := .int .i64 an) rfl
      have c9 := cell_of hb5 9 (v := .int .i64 al) rfl
      have c10 := cell_of hb5 10 (v := .slice ra rl.length rc) rfl
      have HB5 := Lib.hid hb5
      clear hb5
      go_wp2_with (go_at_call 10; refine (num_any _ _).mono ?_; rintro e w6 ⟨rfl, rfl⟩)
      refine (answer_any ai ae as_ an al ra rl rc (HR.out.no HK5.out) (fun r hr => ⟨(HI.out r hr).1.no HK5.out, (HI.out r hr).2⟩) HRM.out).mono ?_
      rintro e w7 ⟨na', new, nc', rfl, _, _, _, _, hk7⟩
      have HN7 := Lib.hid (HN5.out.no hk7)
      clear c5 c6 c7 c8 c9 c10
      unfold AnsV.cells
      dsimp only
      go_wp2_with fail
      refine (heard_nb HN7.out _ _ _ _ _ _ _ _).mono ?_
      rintro e w8 ⟨rfl, hk8⟩
      have HN8 := Lib.hid (HN7.out.no hk8)
      have hk78 := hk7.trans hk8
      have HB8 := Lib.hid (hk78.heap HB5.out (fun h => h))
      have HK8 := Lib.hid (HK5.out.trans hk78)
      clear hk7 hk8 hk78 HN7 HN5 HB5 HK5
      go_wp2_with (first | (go_at_call 10; refine (num_any _ _).mono ?_; rintro e w' ⟨rfl, rfl⟩) | (go_at_call 13; refine (tick_nb HN8.out).mono ?_; rintro e w' ⟨rfl, rfl⟩) | (go_at_call 14; refine (calls_nb HN8.out).mono ?_; rintro e w' ⟨rfl, rfl⟩) | (go_at_call 16; refine (tries_nb HN8.out).mono ?_; rintro e w' ⟨rfl, rfl⟩) | (go_at_call 23; refine (session_nb HN8.out).mono ?_; rintro e w' ⟨rfl, rfl⟩) | (go_at_call 24; refine (seq_nb HN8.out).mono ?_; rintro e w' ⟨rfl, rfl⟩))
      go_roundw
      case rel => exact ⟨k + 1, some ⟨_, 0, none⟩, by go_num, by omega, rfl, NB.new (heap_new _ _) rfl, heap_old _ HB8.out, HK8.out.alloc _⟩
      case measure => simp [intOf]; omega
    · obtain rfl : k = 2 := by omega
      go_wp2_with (go_at_call 11; refine (knows_any _).mono ?_; rintro e w7 ⟨rfl, hkk⟩)
      go_ret
      exact ⟨rfl, (hK.trans hkk).no.belowW⟩

set_option maxRecDepth 100000 in
theorem lifted (os : Os) (started : os.Started) (H : Type) (enc : TypeId × Value → H) :
    ReturnsInHanded {} Try.checked os 7 .any (Rows.clientNilSpec.pre6 enc Try.prog Try.f7 Rows.clientNilRow.domain false) (Rows.clientNilSpec.post enc Try.prog Try.f7 false true false false) := by
  refine returnsInHanded_of_change_sized (C := Try.checked) own started (by kernel_rfl) Try.func7
    (ChangeSpec.witness6 (enc := enc) (C := Try.checked) false ⟨#[], #[.agg #[.int .i64 0, .int .i64 0, .int .i64 0, .int .i64 0, .slice none 0 0, .int .i64 0, .int .i64 0, .int .i64 0, .int .i64 0, .int .i64 0, .slice none 0 0]], []⟩ 8 (by kernel_rfl) (by kernel_rfl) (by kernel_rfl) (by kernel_rfl)) ?_
  intro W base args ds gs before hval0 hW _ hsz _
  have hval : ∀ (j : Nat) t v, Try.f7.params[j]? = some t → args[j]? = some v → Value.okWide Try.prog W .any base t v := hval0
  have hW' := hW
  obtain ⟨p, q, hA0, hV, rfl, hfz, hnd⟩ := hW
  have hA : DataW.TrodAll enc Try.prog W 0 (fun _ => true) true Try.f7.params.toList args.toList ds p := hA0
  rw [Try.params7] at hA hval
  obtain ⟨v0, vs0, d0, ds0, p0, q0, hargs, rfl, rfl, h0, r0⟩ := trodAll_cons hA
  obtain ⟨rfl, rfl, rfl⟩ := trodAll_nil r0
  obtain rfl : args = #[v0] := by cases args; simp_all
  obtain ⟨rfl, rfl⟩ := trodVars_none hV
  obtain ⟨x, rfl, hI, hS⟩ := open_op (hval 0 58 v0 rfl rfl) h0
  refine (nil_walk x W hI (hS (reaches_of hsz (j := 0) rfl rfl))).mono fun e W' ⟨he, hg⟩ => ?_
  subst he
  exact ⟨_, rfl, law_post laidOut (of_decide_eq_true (by kernel_rfl)) rfl Try.underlying4 rfl ⟨rfl, rfl, rfl⟩ hW' hg⟩

theorem over : Rows.clientNilRow.holds Try.pinned (OpenSpec.ofChange Rows.clientNilSpec) :=
  OpenClaim.holds_of_wide 7 Try.f7 rfl rfl rfl rfl rfl rfl rfl ⟨rfl, rfl, rfl, rfl, rfl⟩ rfl rfl rfl rfl rfl (by kernel_rfl) Try.func7 (by kernel_rfl)
    (of_decide_eq_true (by kernel_rfl)) (by unfold Func.isWrapper; first | (rw [if_pos (by decide +kernel)]; kernel_rfl) | (rw [if_neg (by decide +kernel)]; exact ⟨rfl, rfl⟩))
    (fun os started H enc _ => lifted os started H enc)

theorem proved : Rows.ClientNilSaid :=
  over
#print axioms proved
end Go.Proofs.Ytjhefbkigmamfaa.clientNil
