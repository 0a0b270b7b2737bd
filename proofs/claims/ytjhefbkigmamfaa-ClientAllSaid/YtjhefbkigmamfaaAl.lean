/-
  ClientAll: for every list of servers and every two ints the law returns true and leaves its arguments as they were. No condition.
-/
import Derived.Test.YtjhefbkigmamfaaAlp
import Derived.Test.YtjhefbkigmamfaaIl
import Derived.Test.YtjhefbkigmamfaaFin
namespace Go.Proofs.Ytjhefbkigmamfaa.clientAll
open Go.ChangeShapes Go.WideShapes Go.ChangeAt Go.RowKit
set_option linter.unusedVariables false

set_option maxRecDepth 100000 in
set_option maxHeartbeats 4000000 in
theorem walk (a : Option Addr) (zs : List Int) (c : Nat) (pt bf : Int) (W : World) (hr : Row W a (ints zs)) (hm : zs.length ≤ 17592186043904) :
    Calls Try.prog 3 #[.slice a zs.length c, .int .i64 pt, .int .i64 bf] W fun e w' => e = .returned (.bool true) ∧ Below W.heap.size W w' := by
  have HR := Lib.hid hr
  have HM := Lib.hid hm
  have w9 := md_in pt 9 (by omega) (by omega)
  have l9 := md_lo pt 9 (by omega)
  have h9 := md_hi pt 9 (by omega)
  unfold md at l9 h9
  have w91 : IntKind.i64.wrap (1 + (pt.tmod 9 + 9).tmod 9) = 1 + (pt.tmod 9 + 9).tmod 9 := IntWalk.i64_in _ (by omega)
  have HL9 := Lib.hid l9
  have HH9 := Lib.hid h9
  clear l9 h9 hr hm
  have hmm := @run_makeMap Try.prog
  go_enter Try.func3, Try.ntmps3
  go_upto_region 2 with fail
  obtain ⟨P, hP⟩ : ∃ P : Nat, 1 + (pt.tmod 9 + 9).tmod 9 = (P : Int) := ⟨(1 + (pt.tmod 9 + 9).tmod 9).toNat, by have := HL9.out; omega⟩
  have hP1 : 1 ≤ P := by have := HL9.out; omega
  have hP9 : P ≤ 9 := by have := HH9.out; omega
  rw [hP]
  clear w9 w91 hP HL9 HH9
  cases hg : rightS zs with
  | false =>
    have HB := Lib.hid (new_bad (id := 5) (pat := P) (c := c) HR.out HM.out (fun h => by rw [h.2.2.1] at hg; cases hg))
    clear hg
    go_wp2_with fail
    refine HB.out.mono ?_
    rintro e w1 ⟨rfl, hk1⟩
    go_wp2_with (first | (go_at_call 10; refine (num_any _ _).mono ?_; rintro e w' ⟨rfl, rfl⟩) | (go_at_call 11; refine (knows_any _).mono ?_; rintro e w2 ⟨rfl, hk2⟩))
    go_ret
    exact ⟨rfl, (hk1.trans hk2).no.belowW⟩
  | true =>
    obtain ⟨hrs, hl1, hl7⟩ := right_rising hg
    have HN := Lib.hid (new_good (id := 5) (pat := P) (c := c) HR.out ⟨by decide, by decide, hg, by omega, by omega⟩)
    have HRS := Lib.hid hrs
    have w50 := md_in bf 50 (by omega) (by omega)
    have l50 := md_lo bf 50 (by omega)
    have h50 := md_hi bf 50 (by omega)
    unfold md at l50 h50
    have L50 := Lib.hid l50
    have H50 := Lib.hid h50
    obtain ⟨n, hn⟩ : ∃ n, n = zs.length := ⟨_, rfl⟩
    rw [← hn]
    rw [← hn] at hl1 hl7
    have HNN := Lib.hid hn
    obtain ⟨B, hB⟩ : ∃ B, B = W.heap.size := ⟨_, rfl⟩
    have HB := Lib.hid hB
    clear hg hrs l50 h50 hn hB
    go_wp2_with fail
    rw [HNN.out]
    refine HN.out.mono ?_
    rintro e w1 ⟨R, b, sa, sc, rfl, k1, hk1⟩
    rw [← HB.out] at k1
    have K1 := Lib.hid k1
    have HK1 := Lib.hid hk1
    clear k1 hk1
    go_wp2_with (first | (go_at_call 10; refine (num_any _ _).mono ?_; rintro e w' ⟨rfl, rfl⟩))
    refine (open_cw K1.out).mono ?_
    rintro e w2 ⟨rfl, k2, hk2⟩
    have K2 := Lib.hid k2
    have HK2 := Lib.hid (show Kp (fun j => B ≤ j) W w2 from HK1.out.no.trans (hk2.mono (fun j _ (e : j = b) => by rw [e]; exact K1.out.ge)))
    clear k2 hk2 HK1
    go_wp2_with (first | (go_at_call 10; refine (num_any _ _).mono ?_; rintro e w' ⟨rfl, rfl⟩))
    go_loopw [9] (fun q wr => ∃ (k p at_ : Nat) (T : Int) (l : List (Int × Int)), q = .int .i64 k ∧ (k : Int) ≤ (bf.tmod 50 + 50).tmod 50 ∧ CW wr B b (fun _ => False) 5 P zs (p : Nat) at_ T l ∧ p < P ∧ 0 ≤ T ∧ T ≤ 1 + k ∧ l.length ≤ 1 + k ∧ Kp (fun j => B ≤ j) W wr) (fun q _ => 50 - (intOf q).toNat)
    case atStart => exact ⟨0, 0, 0, 1, _, rfl, L50.out, K2.out, by omega, by decide, by decide, by simp, HK2.out⟩
    case round =>
      clear K2 HK2
      obtain ⟨k, p, at_, T, l, rfl, hk, hc, hp, hT0, hT1, hl, hK⟩ := hrel
      have HC := Lib.hid hc
      have HK := Lib.hid hK
      have hk50 : k < 51 := by have := H50.out; omega
      clear hc hK
      by_cases hlt : (k : Int) < (bf.tmod 50 + 50).tmod 50
      · have hk50' : k < 50 := by have := H50.out; omega
        have HLT := Lib.hid (show (k : Int) + 1 ≤ (bf.tmod 50 + 50).tmod 50 by omega)
        go_wp2_with fail
        refine (tick_cw HC.out (fun j h => h.elim) (by omega) (by omega) hT0 (by omega) (by omega)).mono ?_
        rintro e w5 ⟨rfl, h5, hk5⟩
        have HK5 := Lib.hid (HK.out.trans (hk5.mono (fun j _ h => h.1)))
        by_cases hpp : (p : Int) + 1 < P
        · rw [if_pos hpp] at h5
          have H5 := Lib.hid h5
          clear h5 hk5 HC HK hlt hk
          go_wp2_with fail
          go_roundw
          case rel => exact ⟨k + 1, p + 1, at_, T, l, by go_num, by have := HLT.out; omega, H5.out, by omega, hT0, by omega, by omega, HK5.out⟩
          case measure => simp [intOf]; omega
        · rw [if_neg hpp] at h5
          have H5 := Lib.hid h5
          clear h5 hk5 HC HK hlt hk
          go_wp2_with fail
          go_roundw
          case rel => exact ⟨k + 1, 0, _, T + 1, _, by go_num, by have := HLT.out; omega, H5.out, by omega, by omega, by omega, by simp; omega, HK5.out⟩
          case measure => simp [intOf]; omega
      · have hke : ¬ (k : Int) < (bf.tmod 50 + 50).tmod 50 := hlt
        clear hlt
        go_wp2_with fail
        refine (calls_cw HC.out).mono ?_
        rintro e w5 ⟨o5, co5, rfl, _, h5, hk5⟩
        obtain ⟨a0, ha0⟩ : ∃ a0, a0 = at_ := ⟨_, rfl⟩
        obtain ⟨p0, hp0⟩ : ∃ p0, p0 = p := ⟨_, rfl⟩
        have hat : a0 < n := by rw [ha0, HNN.out]; exact h5.at_lt
        have hBs : B ≤ w5.heap.size := by have := h5.ge; omega
        have h6 : CW (w5.alloc (.map #[] 0)) B b (fun j => j = w5.heap.size) 5 P zs ((p0 + 0) % P : Nat) ((a0 + (p0 + 0) / P) % n) T [] := by
          have e1 : (p0 + 0) % P = p := by rw [Nat.add_zero, hp0]; exact Nat.mod_eq_of_lt hp
          have e2 : (a0 + (p0 + 0) / P) % n = at_ := by rw [Nat.add_zero, Nat.div_eq_of_lt (by omega), Nat.add_zero, Nat.mod_eq_of_lt hat, ha0]
          rw [e1, e2]
          exact (h5.other (fun j e => .inr (Nat.le_of_eq e.symm))).kp (S := fun _ => False) ((Kp.refl _ _).alloc _) (fun j h => h.elim)
        have hp0P : p0 < P := by omega
        have m6 : IMap (w5.alloc (.map #[] 0)) w5.heap.size (am zs a0 ((p0 + 0) / P)) := by
          rw [Nat.add_zero, Nat.div_eq_of_lt hp0P]
          exact imap_made w5
        have HK6 := Lib.hid (show Kp (fun j => B ≤ j) W (w5.alloc (.map #[] 0)) from ((HK.out.trans (hk5.mono (fun j _ h => h.1))).alloc _))
        have H6 := Lib.hid h6
        have M6 := Lib.hid m6
        clear h5 hk5 h6 m6 HC HK ha0 hp0 hl
        go_wp2_with fail
        have hsz : (w5.alloc (.map #[] 0)).heap.size = w5.heap.size + 1 := by simp
        generalize w5.alloc (.map #[] 0) = w6 at H6 M6 HK6 hsz ⊢
        generalize w5.heap.size = G at H6 M6 hsz hBs ⊢
        obtain ⟨PN, hPN⟩ : ∃ PN : Nat, PN = P * n := ⟨_, rfl⟩
        have hPNm : (P : Int) * (zs.length : Int) = (PN : Int) := by rw [hPN, ← HNN.out]; simp
        have hPN63 : PN ≤ 63 := by rw [hPN]; exact Nat.mul_le_mul hP9 hl7
        have HPN := Lib.hid hPN
        clear hPN
        go_loopw [11] (fun q wr => ∃ (i : Nat) (T : Int), q = .int .i64 i ∧ i ≤ PN ∧ CW wr B b (fun j => j = G) 5 P zs ((p0 + i) % P : Nat) ((a0 + (p0 + i) / P) % n) T [] ∧ 0 ≤ T ∧ T ≤ 60 + i ∧ IMap wr G (am zs a0 ((p0 + i) / P)) ∧ Kp (fun j => B ≤ j) W wr) (fun q _ => PN - (intOf q).toNat)
        case atStart => exact ⟨0, T, rfl, Nat.zero_le _, H6.out, hT0, by omega, M6.out, HK6.out⟩
        case round =>
          clear H6 M6 HK6
          obtain ⟨i, T, rfl, hi, hc, hT0, hT1, hm, hK⟩ := hrel
          have HC := Lib.hid hc
          have HK := Lib.hid hK
          have HM := Lib.hid hm
          clear hc hK hm
          by_cases hlt : i < PN
          · have hiI : (i : Int) < (PN : Int) := by omega
            have hsp := step_pass P (p0 + i) hP1
            have hcn := cnt_lt P n p0 (i + 1) hP1 hp0P (by rw [← HPN.out]; omega)
            have hmr := Nat.mod_lt (p0 + i) hP1
            have HSP := Lib.hid hsp
            have HCN := Lib.hid hcn
            clear hsp hcn
            go_wp2_with fail
            refine (tick_cw HC.out (fun j (e : j = G) => by rw [e]; exact HM.out.lt) (by omega) (by omega) hT0 (by omega) (by simp)).mono ?_
            rintro e w7 ⟨rfl, h7, hk7⟩
            have M7 := Lib.hid (HM.out.kp hk7 (fun h => h.2 rfl))
            have HK7 := Lib.hid (HK.out.trans (hk7.mono (fun j _ h => h.1)))
            clear hk7
            by_cases hpp : (((p0 + i) % P : Nat) : Int) + 1 < P
            · rw [if_pos hpp] at h7
              obtain ⟨e1, e2⟩ := HSP.out.1 (by omega)
              have h7' : CW w7 B b (fun j => j = G) 5 P zs ((p0 + (i + 1)) % P : Nat) ((a0 + (p0 + (i + 1)) / P) % n) T [] := by
                rw [show p0 + (i + 1) = p0 + i + 1 by omega, e1, e2]
                exact h7
              have M7' := Lib.hid (show IMap w7 G (am zs a0 ((p0 + (i + 1)) / P)) by rw [show p0 + (i + 1) = p0 + i + 1 by omega, e2]; exact M7.out)
              have H7 := Lib.hid h7'
              clear h7 h7' e1 e2 HC HK HM M7 hpp
              go_wp2_with fail
              refine (calls_cw H7.out).mono ?_
              rintro e w8 ⟨o8, co8, rfl, _, h8, hk8⟩
              have H8 := Lib.hid h8
              have M8 := Lib.hid (M7'.out.kp hk8 (fun h => h.2 rfl))
              have HK8 := Lib.hid (HK7.out.trans (hk8.mono (fun j _ h => h.1)))
              clear h8 hk8 H7 M7' HK7
              go_wp2_with fail
              refine wp_loop_rounds 1 ?_
              rw [rounds_succ]
              go_wp2_with fail
              go_roundw
              case rel => exact ⟨i + 1, T, by go_num, by omega, H8.out, hT0, by omega, M8.out, HK8.out⟩
              case measure => simp [intOf]; omega
            · rw [if_neg hpp] at h7
              obtain ⟨e1, e2⟩ := HSP.out.2 (by omega)
              rw [← HNN.out] at h7
              have e3 : ((a0 + (p0 + i) / P) % n + 1) % n = (a0 + (p0 + i) / P + 1) % n := mod_next _ _ _
              rw [e3] at h7
              have hcl : (p0 + i) / P < zs.length := by
                have h := HCN.out
                rw [show p0 + (i + 1) = p0 + i + 1 by omega, e2] at h
                have := HNN.out
                omega
              have hput := am_put HRS.out (by rw [← HNN.out]; exact hl1) a0 ((p0 + i) / P) hcl
              rw [← HNN.out] at hput
              have HPUT := Lib.hid (show putm (am zs a0 ((p0 + i) / P)) (zs.getD ((a0 + (p0 + i) / P + 1) % n) 0) (.bool true) = am zs a0 ((p0 + (i + 1)) / P) by rw [hput, show p0 + (i + 1) = p0 + i + 1 by omega, e2])
              obtain ⟨ky, hky⟩ : ∃ ky, ky = zs.getD ((a0 + (p0 + i) / P + 1) % n) 0 := ⟨_, rfl⟩
              rw [← hky] at HPUT h7
              have h7' : CW w7 B b (fun j => j = G) 5 P zs ((p0 + (i + 1)) % P : Nat) ((a0 + (p0 + (i + 1)) / P) % n) (T + 1) ([] ++ [(ky, 5 * 1000000 + (T + 1))]) := by
                rw [show p0 + (i + 1) = p0 + i + 1 by omega, e1, e2]
                exact h7
              have H7 := Lib.hid h7'
              clear h7 h7' e1 e2 e3 hcl hput hky HC HK HM hpp
              go_wp2_with fail
              refine (calls_cw H7.out).mono ?_
              rintro e w8 ⟨o8, co8, rfl, hl8, h8, hk8⟩
              obtain ⟨g, rfl, hgB, hgG, d0, d1⟩ := hl8 0 _ rfl
              have H8 := Lib.hid h8
              have M8 := M7.out.kp hk8 (fun h => h.2 rfl)
              have HK8 := Lib.hid (HK7.out.trans (hk8.mono (fun j _ h => h.1)))
              have d0' : w8.cell? ⟨g, 0, none⟩ = some (.int .i64 ky) := by simpa using d0
              clear h8 hk8 H7 HK7 hl8 d0 d1
              go_wp2_with fail
              refine wp_loop_rounds 2 ?_
              rw [rounds_succ]
              go_wp2_with (at_mapUpdate; refine Stop.mk ?_)
              unfold Stop
              refine wpList_update_i Try.underlying36 Try.underlying3 rfl _ _ _ rfl rfl M8 rfl rfl ?_
              intro w9 m9 k9
              have m9 : IMap w9 G (putm (am zs a0 ((p0 + i) / P)) ky (.bool true)) := m9
              rw [HPUT.out] at m9
              have H9 := Lib.hid (H8.out.kp k9 (fun j h => .inl h))
              have M9 := Lib.hid m9
              have HK9 := Lib.hid (HK8.out.trans (k9.mono (fun j _ (h : j = G) => by omega)))
              clear m9 k9 M8 H8 HK8 d0'
              go_wp2_with fail
              rw [rounds_succ]
              go_wp2_with fail
              go_roundw
              case rel => exact ⟨i + 1, T + 1, by go_num, by omega, H9.out, by omega, by omega, M9.out, HK9.out⟩
              case measure => simp [intOf]; omega
          · obtain rfl : i = PN := by omega
            have hlen := run_len_i (P := Try.prog) Try.underlying36 HM.out 3
            rw [am_length, HPN.out, cnt_end P n p0 hP1 hp0P, HNN.out] at hlen
            clear HC HM hlt
            go_wp2_with (first | (go_at_call 11; refine (knows_any _).mono ?_; rintro e w9 ⟨rfl, hk9⟩))
            go_ret
            exact ⟨rfl, (HB.out ▸ HK.out.trans hk9.no).belowW⟩

set_option maxRecDepth 100000 in
theorem lifted (os : Os) (started : os.Started) (H : Type) (enc : TypeId × Value → H) :
    ReturnsInHanded {} Try.checked os 3 .any (Rows.clientAllSpec.pre6 enc Try.prog Try.f3 Rows.clientAllRow.domain false) (Rows.clientAllSpec.post enc Try.prog Try.f3 false true false false) := by
  refine returnsInHanded_of_change_sized (C := Try.checked) own started (by kernel_rfl) Try.func3
    (ChangeSpec.witness6 (enc := enc) (C := Try.checked) false ⟨#[], #[.slice none 0 0, .int .i64 0, .int .i64 0], []⟩ 8 (by kernel_rfl) (by kernel_rfl) (by kernel_rfl) (by kernel_rfl)) ?_
  intro W base args ds gs before hval0 hW _ hsz _
  have hval : ∀ (j : Nat) t v, Try.f3.params[j]? = some t → args[j]? = some v → Value.okWide Try.prog W .any base t v := hval0
  have hW' := hW
  obtain ⟨p, q, hA0, hV, rfl, hfz, hnd⟩ := hW
  have hA : DataW.TrodAll enc Try.prog W 0 (fun _ => true) true Try.f3.params.toList args.toList ds p := hA0
  rw [Try.params3] at hA hval
  obtain ⟨v0, vs0, d0, ds0, p0, q0, hargs, rfl, rfl, h0, r0⟩ := trodAll_cons hA
  obtain ⟨v1, vs1, d1, ds1, p1, q1, rfl, rfl, rfl, h1, r1⟩ := trodAll_cons r0
  obtain ⟨v2, vs2, d2, ds2, p2, q2, rfl, rfl, rfl, h2, r2⟩ := trodAll_cons r1
  obtain ⟨rfl, rfl, rfl⟩ := trodAll_nil r2
  obtain rfl : args = #[v0, v1, v2] := by cases args; simp_all
  obtain ⟨rfl, rfl⟩ := trodVars_none hV
  have o0 := hval 0 22 v0 rfl rfl
  obtain ⟨a1, rfl, rfl, _, w1⟩ := open_int Try.underlying3 (hval 1 3 v1 rfl rfl) h1
  obtain ⟨a2, rfl, rfl, _, w2⟩ := open_int Try.underlying3 (hval 2 3 v2 rfl rfl) h2
  obtain ⟨x, zs, c, rfl, hX, hZ⟩ := open_il o0 h0
  have mx := il_le hsz (j := 0) rfl rfl hZ
  refine (walk x zs c a1 a2 W hX mx).mono fun e W' ⟨he, hg⟩ => ?_
  subst he
  exact ⟨_, rfl, law_post laidOut (of_decide_eq_true (by kernel_rfl)) rfl Try.underlying4 rfl ⟨rfl, rfl, rfl⟩ hW' hg⟩

theorem over : Rows.clientAllRow.holds Try.pinned (OpenSpec.ofChange Rows.clientAllSpec) :=
  OpenClaim.holds_of_wide 3 Try.f3 rfl rfl rfl rfl rfl rfl rfl ⟨rfl, rfl, rfl, rfl, rfl⟩ rfl rfl rfl rfl rfl (by kernel_rfl) Try.func3 (by kernel_rfl)
    (of_decide_eq_true (by kernel_rfl)) (by unfold Func.isWrapper; first | (rw [if_pos (by decide +kernel)]; kernel_rfl) | (rw [if_neg (by decide +kernel)]; exact ⟨rfl, rfl⟩))
    (fun os started H enc _ => lifted os started H enc)

theorem proved : Rows.ClientAllSaid :=
  over
#print axioms proved
end Go.Proofs.Ytjhefbkigmamfaa.clientAll
