/-
  ReadsMajority: for every leader, number of servers, list of what was heard and round the law returns true and leaves its arguments as they were. No condition.
-/
import Derived.Test.YtdkgbjbfmempdaaMaj
import Derived.Test.YtdkgbjbfmempdaaIl
import Derived.Deep.DeepCutAuto
namespace Go.Proofs.Ytdkgbjbfmempdaa.readsMajority
open Go.ChangeShapes Go.WideShapes Go.ChangeAt Go.RowKit Go.Deep
set_option linter.unusedVariables false

/-- The round in which server j is heard. -/
def atOf (zs : List Int) (j : Nat) : Int := if j < zs.length then md (zs.getD j 0) 50 else -1

set_option maxRecDepth 100000 in
set_option maxHeartbeats 4000000 in
theorem walk (me sv : Int) (x : Option Addr) (zs : List Int) (cx : Nat) (rd : Int) (W : World) (hX : Ints W x zs) (mx : zs.length ≤ 17592186043904) :
    Calls Try.prog 4 #[.int .i64 me, .int .i64 sv, .slice x zs.length cx, .int .i64 rd] W fun e w' => e = .returned (.bool true) ∧ Below W.heap.size W w' := by
  have HX := Lib.hid hX
  have HMX := Lib.hid mx
  clear hX mx
  have w7 := md_in sv 7 (by omega) (by omega)
  have l7 := md_lo sv 7 (by omega)
  have h7 := md_hi sv 7 (by omega)
  unfold md at l7 h7
  have w71 : IntKind.i64.wrap (1 + (sv.tmod 7 + 7).tmod 7) = 1 + (sv.tmod 7 + 7).tmod 7 := IntWalk.i64_in _ (by omega)
  have HL7 := Lib.hid l7
  have HH7 := Lib.hid h7
  clear l7 h7
  go_enter Try.func4, Try.ntmps4
  go_upto_region 2 with fail
  obtain ⟨s, hs⟩ : ∃ s : Nat, 1 + (sv.tmod 7 + 7).tmod 7 = (s : Int) := ⟨(1 + (sv.tmod 7 + 7).tmod 7).toNat, by have := HL7.out; omega⟩
  have hs1 : 1 ≤ s := by have := HL7.out; omega
  have hs7 : s ≤ 7 := by have := HH7.out; omega
  rw [hs]
  clear w7 w71 hs HL7 HH7
  have wM := md_in me s (by omega) (by omega)
  have hsI : (1 : Int) ≤ (s : Int) := by omega
  go_upto_region 3 with fail
  have lM := md_lo me s (by omega)
  have hM := md_hi me s (by omega)
  unfold md at lM hM
  generalize (me.tmod s + s).tmod s = M at lM hM ⊢
  clear wM
  have wR := md_in rd 50 (by omega) (by omega)
  go_upto_region 4 with fail
  have lR := md_lo rd 50 (by omega)
  have hR := md_hi rd 50 (by omega)
  unfold md at lR hR
  generalize (rd.tmod 50 + 50).tmod 50 = R at lR hR ⊢
  clear wR
  go_wp2_with fail
  refine (new_good W M lM (by omega)).mono ?_
  rintro e w1 ⟨b, rfl, hb1, hk1⟩
  obtain ⟨B, hB⟩ : ∃ B, B = W.heap.size := ⟨_, rfl⟩
  rw [← hB] at hb1
  have HB := Lib.hid hB
  clear hB
  have hK1 : Kp (fun j => B ≤ j) W w1 := hk1.no
  have ha := ask_any hb1 (by decide) 1 9 R
  rw [ask_one R lR] at ha
  have HA := Lib.hid ha
  clear hk1 ha
  go_wp2_with (first | (go_at_call 9; refine (num_any _ _).mono ?_; rintro e w' ⟨rfl, rfl⟩))
  refine HA.out.mono ?_
  rintro e w2 ⟨a, cap, rfl, hb2, hk2, _⟩
  have hK2 := hK1.trans (hb1.kpB hk2)
  clear hb1 hK1 hk2 HA
  go_wp2_with (first | (go_at_call 9; refine (num_any _ _).mono ?_; rintro e w' ⟨rfl, rfl⟩) | (go_at_call 10; refine (knows_any _).mono ?_; rintro e w3 ⟨rfl, hk3⟩))
  have hb3 := hb2.no hk3
  have hK3 := hK2.trans hk3.no
  clear hb2 hK2 hk3
  rw [← hsK_zero (atOf zs)] at hb3
  have hBs := hK3.size
  rw [← HB.out] at hBs
  go_loopw [11, 12, 13] (fun v11 v12 v13 wr => ∃ (k : Nat) (o : Option Addr) (co : Nat), v13 = .int .i64 k ∧ k ≤ s ∧ v12 = .int .i64 (cN M R (atOf zs) k : Nat) ∧ v11 = .slice o k co ∧ Owns wr B 3 1 o k co ((upto k).map (Value.int .i64)) ∧ (∀ g, blockOf o = some g → ¬ Foot b a g) ∧ Book wr B b M [⟨1, 9, R⟩] (hsK (atOf zs) k) a cap ∧ Kp (fun j => B ≤ j) W wr) (fun _ _ q _ => s - (intOf q).toNat)
  case atStart => exact ⟨0, none, 0, rfl, Nat.zero_le _, rfl, rfl, Owns.nil _ _ _ _, (fun g hg => by cases hg), hb3, hK3⟩
  case round =>
    clear hb3 hK3 hBs
    obtain ⟨k, o, co, rfl, hk, rfl, rfl, ho, hof, hb, hK⟩ := hrel
    have hck := cN_le M R (atOf zs) k
    by_cases hlt : k < s
    · have hkI : (k : Int) < (s : Int) := by omega
      have hk0 : (0 : Int) ≤ (k : Int) := by omega
      have hcS : cN M R (atOf zs) (k + 1) = cN M R (atOf zs) k + if (k : Int) = M ∨ R ≤ atOf zs k then 1 else 0 := rfl
      generalize cN M R (atOf zs) k = c at hck hcS ⊢
      have HCS := Lib.hid hcS
      clear hcS
      have HO := Lib.hid ho
      have HOF := Lib.hid hof
      have HBK := Lib.hid hb
      have HK := Lib.hid hK
      have hBs : B ≤ wr.heap.size := by have := hK.size; have := HB.out; omega
      clear ho hof hb hK
      go_wp2_with (at_builtin; refine Stop.mk ?_)
      unfold Stop
      refine wpList_app_at rfl _ _ 23 rfl B 3 info3 Try.underlying23 rfl (by decide) rfl (Owns.kp HO.out ((Kp.refl (fun _ => False) _).alloc _) (fun _ _ h => h)) rfl (news := [(k : Int)].map (Value.int .i64)) (by simp) (fun j u hu => ?c1) (one_int _) (by unfold maxLen; omega) (by omega) (by simp; omega) ?_
      case c1 =>
        match j, hu with
        | 0, hu => simp at hu; subst hu; simp [Addr.add]
        | j + 1, hu => simp at hu
      intro o' co' w3 ho3 hk3 hmv
      rw [← List.map_append, ← upto_succ] at ho3
      have hb3 : Book w3 B b M [⟨1, 9, R⟩] (hsK (atOf zs) k) a cap := (HBK.out.no ((Kp.refl _ _).alloc _)).kp hk3 (fun e => HOF.out b e.symm (Or.inl rfl)) (fun g hg e => HOF.out g e.symm (Or.inr hg.symm))
      have hK3 : Kp (fun j => B ≤ j) W w3 := (HK.out.alloc _).andThen hk3 (fun i hi e => (HO.out.from e.symm).1)
      have hof3 : ∀ g, blockOf o' = some g → ¬ Foot b a g := by
        intro g hg hF
        rcases hmv with e | e
        · exact HOF.out g (e ▸ hg) hF
        · rw [e] at hg
          cases hg
          have := (HBK.out.foot hF).2
          simp at this
          omega
      have HO3 := Lib.hid ho3
      have HOF3 := Lib.hid hof3
      clear hk3 hmv ho3 hof3 HO HOF HBK HK
      go_upto_if 67 with fail
      obtain ⟨tk, htk⟩ : ∃ tk, tk = atOf zs k := ⟨_, rfl⟩
      have HT := Lib.hid htk
      have HCS2 := Lib.hid (show cN M R (atOf zs) (k + 1) = c + if (k : Int) = M ∨ R ≤ tk then 1 else 0 by rw [htk]; exact HCS.out)
      clear htk HCS
      go_cut [14] (fun q w' => q = .int .i64 tk ∧ Book w' B b M [⟨1, 9, R⟩] (hsK (atOf zs) (k + 1)) a cap ∧ Kp (Foot b a) w3 w')
      case first =>
        by_cases hh : k < zs.length
        · obtain ⟨g, og, rfl, d0⟩ := (HX.out.kp (HB.out ▸ hK3) (fun j hj h => by have : W.heap.size ≤ j := h; omega)).at hh
          have e1 : atOf zs k = md (zs.getD k 0) 50 := by unfold atOf; rw [if_pos hh]
          have HE := Lib.hid (HT.out.trans e1)
          clear e1
          generalize zs.getD k 0 = z at d0 HE
          have w50 := md_in z 50 (by omega) (by omega)
          have hhI : (k : Int) < (zs.length : Int) := by omega
          go_wp2_with fail
          have hh2 := heard_good hb3 k (by omega) (md z 50) (md_lo z 50 (by omega))
          have e2 := hsK_heard (atOf zs) k (by rw [← HT.out, HE.out]; exact md_lo z 50 (by omega))
          rw [← HT.out, HE.out] at e2
          rw [e2] at hh2
          refine hh2.mono ?_
          rintro e w4 ⟨rfl, hb4, hk4⟩
          clear hh2 e2 w50 hb3
          go_wp2
          go_meet
          case rel => exact ⟨congrArg (Value.int .i64) HE.out.symm, hb4, hk4.mono (fun j _ h => Or.inl h)⟩
        · have e1 : atOf zs k = -1 := by unfold atOf; rw [if_neg hh]
          have e2 := hsK_skip (atOf zs) k e1
          rw [e2] at hb3
          have HE := Lib.hid (HT.out.trans e1)
          clear e1 e2
          go_wp2_with fail
          go_meet
          case rel => exact ⟨congrArg (Value.int .i64) HE.out.symm, hb3, Kp.refl _ _⟩
      case rest =>
        obtain ⟨rfl, hb4, hk4⟩ := hcut
        have ho4 := HO3.out.kp hk4 HOF3.out
        have hK4 := hK3.trans (hb3.kpB hk4)
        clear hb3 hK3 hk4 HO3 HT
        by_cases hkm : (k : Int) = M
        · have hc2 : cN M R (atOf zs) (k + 1) = c + 1 := by rw [HCS2.out, if_pos (.inl hkm)]
          have HC := Lib.hid hc2
          have hkb : ((k : Int) == M) = true := by simpa using hkm
          clear hc2 HCS2
          go_wp2_with fail
          go_roundw
          case rel => exact ⟨k + 1, o', co', by go_num, by omega, by rw [HC.out]; go_num, rfl, ho4, HOF3.out, hb4, hK4⟩
          case measure => simp [intOf]; omega
        · have hkb : ((k : Int) == M) = false := by simpa using hkm
          by_cases hrt : R ≤ tk
          · have hc2 : cN M R (atOf zs) (k + 1) = c + 1 := by rw [HCS2.out, if_pos (.inr hrt)]
            have HC := Lib.hid hc2
            clear hc2 HCS2 hkm
            go_wp2_with fail
            go_roundw
            case rel => exact ⟨k + 1, o', co', by go_num, by omega, by rw [HC.out]; go_num, rfl, ho4, HOF3.out, hb4, hK4⟩
            case measure => simp [intOf]; omega
          · have hc2 : cN M R (atOf zs) (k + 1) = c := by rw [HCS2.out, if_neg (by omega)]; rfl
            have HC := Lib.hid hc2
            clear hc2 HCS2 hkm
            go_wp2_with fail
            go_roundw
            case rel => exact ⟨k + 1, o', co', by go_num, by omega, by rw [HC.out], rfl, ho4, HOF3.out, hb4, hK4⟩
            case measure => simp [intOf]; omega
    · obtain rfl : k = s := by omega
      have hI := ho.ints
      have hw := won_upto M R (atOf zs) k (by omega)
      have hR := ready_any hb (by simp) hI (fun hz g hg e => hof g hg (Or.inr e.symm)) (by rw [upto_length]; omega) co
      rw [upto_length] at hR
      have hlen := told_one ⟨1, 9, R⟩ (fun r => won (upto k) (yes M (hsK (atOf zs) k) r.rd))
      simp only [hw] at hlen
      generalize toldAll (fun r => won (upto k) (yes M (hsK (atOf zs) k) r.rd)) [⟨1, 9, R⟩] = T at hR hlen
      generalize cN M R (atOf zs) k = c at hck hlen ⊢
      have HR := Lib.hid hR
      have hbb := hb
      have HBK := Lib.hid hbb
      have HK := Lib.hid hK
      clear hR hI hw hbb hb hK ho hof hlt hk
      by_cases h2 : k < 2 * c
      · have hl : T.length = 1 := by rw [hlen]; simp [h2]
        have HL := Lib.hid hl
        have h2b : decide (((2 * c : Int)) > (k : Int)) = true := by simp; omega
        have h2I : (k : Int) < 2 * (c : Int) := by omega
        clear hlen hl
        go_wp2_with fail
        refine HR.out.mono ?_
        rintro e w4 ⟨o4, co4, rfl, ho4, hb4, hk4⟩
        rw [HL.out]
        have hK4 := HK.out.trans (HBK.out.kpB hk4)
        clear ho4 hb4 hk4
        go_wp2_with fail
        go_ret
        exact ⟨rfl, (HB.out ▸ hK4).belowW⟩
      · have hl : T.length = 0 := by rw [hlen]; simp [h2]
        have HL := Lib.hid hl
        have h2I : ¬ (k : Int) < 2 * (c : Int) := by omega
        have h2d : decide ((k : Int) < 2 * (c : Int)) = false := decide_eq_false h2I
        clear h2I
        clear hlen hl
        go_wp2_with fail
        refine HR.out.mono ?_
        rintro e w4 ⟨o4, co4, rfl, ho4, hb4, hk4⟩
        rw [HL.out]
        have hK4 := HK.out.trans (HBK.out.kpB hk4)
        clear ho4 hb4 hk4
        go_wp2_with fail
        go_ret
        exact ⟨rfl, (HB.out ▸ hK4).belowW⟩

set_option maxRecDepth 100000 in
theorem lifted (os : Os) (started : os.Started) (H : Type) (enc : TypeId × Value → H) :
    ReturnsInHanded {} Try.checked os 4 .any (Rows.readsMajoritySpec.pre6 enc Try.prog Try.f4 Rows.readsMajorityRow.domain false) (Rows.readsMajoritySpec.post enc Try.prog Try.f4 false true false false) := by
  refine returnsInHanded_of_change_sized (C := Try.checked) own started (by kernel_rfl) Try.func4
    (ChangeSpec.witness6 (enc := enc) (C := Try.checked) false ⟨#[], #[.int .i64 0, .int .i64 0, .slice none 0 0, .int .i64 0], []⟩ 8 (by kernel_rfl) (by kernel_rfl) (by kernel_rfl) (by kernel_rfl)) ?_
  intro W base args ds gs before hval0 hW _ hsz _
  have hval : ∀ (j : Nat) t v, Try.f4.params[j]? = some t → args[j]? = some v → Value.okWide Try.prog W .any base t v := hval0
  have hW' := hW
  obtain ⟨p, q, hA0, hV, rfl, hfz, hnd⟩ := hW
  have hA : DataW.TrodAll enc Try.prog W 0 (fun _ => true) true Try.f4.params.toList args.toList ds p := hA0
  rw [Try.params4] at hA hval
  obtain ⟨v0, vs0, d0, ds0, p0, q0, hargs, rfl, rfl, h0, r0⟩ := trodAll_cons hA
  obtain ⟨v1, vs1, d1, ds1, p1, q1, rfl, rfl, rfl, h1, r1⟩ := trodAll_cons r0
  obtain ⟨v2, vs2, d2, ds2, p2, q2, rfl, rfl, rfl, h2, r2⟩ := trodAll_cons r1
  obtain ⟨v3, vs3, d3, ds3, p3, q3, rfl, rfl, rfl, h3, r3⟩ := trodAll_cons r2
  obtain ⟨rfl, rfl, rfl⟩ := trodAll_nil r3
  obtain rfl : args = #[v0, v1, v2, v3] := by cases args; simp_all
  obtain ⟨rfl, rfl⟩ := trodVars_none hV
  obtain ⟨a0, rfl, rfl, _, w0⟩ := open_int Try.underlying3 (hval 0 3 v0 rfl rfl) h0
  obtain ⟨a1, rfl, rfl, _, w1⟩ := open_int Try.underlying3 (hval 1 3 v1 rfl rfl) h1
  have o2 := hval 2 23 v2 rfl rfl
  obtain ⟨a3, rfl, rfl, _, w3⟩ := open_int Try.underlying3 (hval 3 3 v3 rfl rfl) h3
  obtain ⟨x, zs, cx, rfl, hX, hZ⟩ := open_il o2 h2
  have mx := il_le hsz (j := 2) rfl rfl hZ
  refine (walk a0 a1 x zs cx a3 W hX mx).mono fun e W' ⟨he, hg⟩ => ?_
  subst he
  exact ⟨_, rfl, law_post laidOut (of_decide_eq_true (by kernel_rfl)) rfl Try.underlying4 rfl ⟨rfl, rfl, rfl⟩ hW' hg⟩

theorem over : Rows.readsMajorityRow.holds Try.pinned (OpenSpec.ofChange Rows.readsMajoritySpec) :=
  OpenClaim.holds_of_wide 4 Try.f4 rfl rfl rfl rfl rfl rfl rfl ⟨rfl, rfl, rfl, rfl, rfl⟩ rfl rfl rfl rfl rfl (by kernel_rfl) Try.func4 (by kernel_rfl)
    (of_decide_eq_true (by kernel_rfl)) (by unfold Func.isWrapper; first | (rw [if_pos (by decide +kernel)]; kernel_rfl) | (rw [if_neg (by decide +kernel)]; exact ⟨rfl, rfl⟩))
    (fun os started H enc _ => lifted os started H enc)

theorem proved : Rows.ReadsMajoritySaid :=
  over
#print axioms proved
end Go.Proofs.Ytdkgbjbfmempdaa.readsMajority
