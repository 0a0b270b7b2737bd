/-
  ReadsOrder: for every leader, every list of calls and every list of servers the law returns true and leaves its arguments as they were. No condition.
-/
import Derived.Test.YtdkgbjbfmempdaaMd
import Derived.Test.YtdkgbjbfmempdaaOpl
import Derived.Test.YtdkgbjbfmempdaaCl
import Derived.Test.YtdkgbjbfmempdaaRa
import Derived.Test.YtdkgbjbfmempdaaRr
import Derived.Deep.DeepCutAuto
namespace Go.Proofs.Ytdkgbjbfmempdaa.readsOrder
open Go.ChangeShapes Go.WideShapes Go.ChangeAt Go.RowKit Go.Deep
set_option linter.unusedVariables false

set_option maxRecDepth 100000 in
set_option maxHeartbeats 4000000 in
theorem walk (me : Int) (x : Option Addr) (n cx : Nat) (O : Nat → OpE) (y : Option Addr) (zs : List Int) (cy : Nat) (W : World) (hO : Ops W x n O) (mx : n ≤ maxLen) (hY : Ints W y zs) (my : zs.length ≤ 17592186043904) :
    Calls Try.prog 7 #[.int .i64 me, .slice x n cx, .slice y zs.length cy] W fun e w' => e = .returned (.bool true) ∧ Below W.heap.size W w' := by
  unfold maxLen at mx
  have HO := Lib.hid hO
  have HY := Lib.hid hY
  have HMY := Lib.hid my
  clear hO hY my
  have w16 := md_in me 16 (by omega) (by omega)
  go_enter Try.func7, Try.ntmps7
  go_wp2_with fail
  refine (new_md W me 16 (by omega) (by omega)).mono ?_
  rintro e w1 ⟨b, rfl, hb, hk1⟩
  obtain ⟨B, hB⟩ : ∃ B, B = W.heap.size := ⟨_, rfl⟩
  obtain ⟨M, hM⟩ : ∃ M, M = md me 16 := ⟨_, rfl⟩
  rw [← hB, ← hM] at hb
  have HB := Lib.hid hB
  clear hB hM w16
  have hK1 : Kp (fun j => B ≤ j) W w1 := hk1.no
  clear hk1
  go_wp2_with (first | (go_at_call 9; refine (num_any _ _).mono ?_; rintro e w' ⟨rfl, rfl⟩) | (go_at_call 10; refine (knows_any _).mono ?_; rintro e w2 ⟨rfl, hk2⟩))
  have hb2 := hb.no hk2
  have hK2 := hK1.trans hk2.no
  clear hb hK1 hk2
  go_loopw [9] (fun q wr => ∃ (k : Nat) (l : List Rd) (h : Nat → Int) (a : Option Addr) (cap : Nat), q = .int .i64 k ∧ k ≤ n ∧ k ≤ 90 ∧ Book wr B b M l h a cap ∧ Up l k ∧ Kp (fun j => B ≤ j) W wr) (fun q _ => n - (intOf q).toNat)
  case atStart => exact ⟨0, _, _, _, _, rfl, Nat.zero_le _, by omega, hb2, up_nil, hK2⟩
  case round =>
    clear hb2 hK2
    obtain ⟨k, l, h, a, cap, rfl, hk, hk9, hb, hu, hK⟩ := hrel
    have HU := Lib.hid hu
    clear hu
    by_cases hlt : k < n ∧ k < 90
    · obtain ⟨ba, oa, hlba, rfl, ⟨e0, e1, e2, e3, e4⟩, _⟩ := HO.out.kp (HB.out ▸ hK) hlt.1
      obtain ⟨hlt, hl9⟩ := hlt
      generalize O k = oe at e0 e1 e2 e3 e4
      obtain ⟨ko, A, C, D, xo, zo, co⟩ := oe
      have hkI : (k : Int) < (n : Int) := by omega
      have hk0 : (0 : Int) ≤ (k : Int) := by omega
      have hk9I : (k : Int) < 90 := by omega
      go_upto_region 8 with fail
      have hX : (wr.alloc (.cells #[.int .i64 ko, .int .i64 A, .int .i64 C, .int .i64 D, .slice xo zo.length co] 32)).heap[wr.heap.size]? = some (.cells #[.int .i64 ko, .int .i64 A, .int .i64 C, .int .i64 D, .slice xo zo.length co] 32 (0, 0)) := heap_new wr _
      have hka : Kp (fun _ => False) wr (wr.alloc (.cells #[.int .i64 ko, .int .i64 A, .int .i64 C, .int .i64 D, .slice xo zo.length co] 32)) := (Kp.refl _ _).alloc _
      have hb2 := hb.no hka
      have hK2 := hK.trans hka.no
      have hFX : ¬ Foot b a wr.heap.size := fun h => absurd (hb.foot h).2 (Nat.lt_irrefl _)
      generalize wr.alloc (.cells #[.int .i64 ko, .int .i64 A, .int .i64 C, .int .i64 D, .slice xo zo.length co] 32) = wo at hX hb2 hK2 ⊢
      have hXB : B ≤ wr.heap.size := by have := hK.size; have := HB.out; omega
      generalize wr.heap.size = X at hX hFX hXB ⊢
      clear hb hK hka e0 e1 e2 e3 e4
      go_cut [68] (fun q w' => q = .bool false ∧ w'.heap[X]? = some (.cells #[.int .i64 ko, .int .i64 A, .int .i64 C, .int .i64 D, .slice xo zo.length co] 32 (0, 0)) ∧ (∃ l h a cap, Book w' B b M l h a cap ∧ Up l (k + 1) ∧ ¬ Foot b a X) ∧ Kp (fun j => B ≤ j) W w')
      case first =>
        have c0 : wo.cell? ⟨X, 0, none⟩ = some (.int .i64 ko) := cell_of hX 0 rfl
        have c2 : wo.cell? ⟨X, 2, none⟩ = some (.int .i64 C) := cell_of hX 2 rfl
        have c3 : wo.cell? ⟨X, 3, none⟩ = some (.int .i64 D) := cell_of hX 3 rfl
        by_cases k0 : ko = 0
        · subst k0
          have w9 := md_in C 9 (by omega) (by omega)
          have w9' := md_in D 9 (by omega) (by omega)
          go_wp2_with fail
          refine (ask_up hb2 HU.out hl9 C D 9 9 (by omega) (by omega)).mono ?_
          rintro e w3 ⟨rfl, a', cap', hb3, hk3, hm3⟩
          have hu3 := (HU.out.ask hl9 _ _ (md_lo C 9 (by omega)) (md_lo D 9 (by omega))).2
          have HU3 := Lib.hid hu3
          have hX3 := hk3.heap hX hFX
          have hF3 := hm3.foot hFX (lt_of_block hX)
          have hK3 := hK2.trans (hb2.kpB hk3)
          clear hu3 hX hb2 hK2 hk3 c2 c3 w9 w9' hm3
          go_wp2_with (first | (go_at_call 9; refine (num_any _ _).mono ?_; rintro e w' ⟨rfl, rfl⟩))
          go_meet
          case rel => exact ⟨rfl, hX3, ⟨_, _, _, _, hb3, HU3.out, hF3⟩, hK3⟩
        · have f0 : (ko == 0) = false := by simpa using k0
          clear k0
          go_wp2_with fail
          go_meet
          case rel => exact ⟨rfl, hX, ⟨_, _, _, _, hb2, HU.out.mono (by omega), hFX⟩, hK2⟩
      case rest =>
        clear hX hb2 hK2 hFX HU
        obtain ⟨rfl, hX, ⟨l, h, a, cap, hb, hu, hF⟩, hK⟩ := hcut
        have HU := Lib.hid hu
        clear hu
        have c0 : wc.cell? ⟨X, 0, none⟩ = some (.int .i64 ko) := cell_of hX 0 rfl
        go_upto_if 71 with fail
        go_cut [9] (fun q w' => q = .int .i64 k ∧ w'.heap[X]? = some (.cells #[.int .i64 ko, .int .i64 A, .int .i64 C, .int .i64 D, .slice xo zo.length co] 32 (0, 0)) ∧ (∃ h, Book w' B b M l h a cap) ∧ Kp (fun j => B ≤ j) W w')
        case first =>
          have c1 : wc.cell? ⟨X, 1, none⟩ = some (.int .i64 A) := cell_of hX 1 rfl
          have c2 : wc.cell? ⟨X, 2, none⟩ = some (.int .i64 C) := cell_of hX 2 rfl
          by_cases k1 : ko = 1
          · subst k1
            have w9 := md_in A 16 (by omega) (by omega)
            have w9' := md_in C 9 (by omega) (by omega)
            go_wp2_with fail
            refine (heard_md hb A C 9 (by omega)).mono ?_
            rintro e w3 ⟨rfl, hb3, hk3⟩
            have hX3 := hk3.heap hX hF
            have hK3 := hK.trans (hb.kpB hk3)
            clear hX hb hK hk3 c0 c1 c2 w9 w9'
            go_wp2_with fail
            go_meet
            case rel => exact ⟨rfl, hX3, ⟨_, hb3⟩, hK3⟩
          · have f1 : (ko == 1) = false := by simpa using k1
            clear k1
            go_wp2_with fail
            go_meet
            case rel => exact ⟨rfl, hX, ⟨_, hb⟩, hK⟩
        case rest =>
          clear hX hb hK hF c0
          obtain ⟨rfl, hX, ⟨h, hb⟩, hK⟩ := hcut
          have c0 : wc.cell? ⟨X, 0, none⟩ = some (.int .i64 ko) := cell_of hX 0 rfl
          go_upto_if 86 with fail
          go_cut [9] (fun q w' => q = .int .i64 k ∧ (∃ l h a cap, Book w' B b M l h a cap ∧ Up l (k + 1)) ∧ Kp (fun j => B ≤ j) W w')
          case first =>
            by_cases k2 : ko = 2
            · subst k2
              go_wp2_with fail
              refine (ready_below hb (by have := HU.out.le; omega) HB.out.symm HY.out hK HMY.out cy).mono ?_
              rintro e w3 ⟨o3, co3, rfl, ha3, hn3, hb3, hk3⟩
              have hK3 := hK.trans hk3
              have hu3 := HU.out.keep (fun r => won zs (yes M h r.rd))
              have ht3 := HU.out.told (fun r => won zs (yes M h r.rd))
              have HU3 := Lib.hid hu3
              clear hu3 hX hb hK hk3 c0
              generalize toldAll (fun r => won zs (yes M h r.rd)) l = T at ha3 ht3 ⊢
              generalize keep (fun r => won zs (yes M h r.rd)) l = L at hb3 HU3 ⊢
              have hT9 : T.length ≤ 91 := by omega
              have HA := Lib.hid ha3
              have HT := Lib.hid ht3.1
              have HH3 := Lib.hid hK3
              have HB3 := Lib.hid hb3
              have HN3 := Lib.hid hn3
              clear ha3 ht3 hK3 hb3 hn3
              go_wp2_with fail
              go_loopw [12] (fun q wr => ∃ (j : Nat), q = .int .i64 j ∧ 1 ≤ j ∧ (j ≤ T.length ∨ j = 1) ∧ Kp (fun _ => False) w3 wr) (fun q _ => T.length - (intOf q).toNat)
              case atStart => exact ⟨1, rfl, by omega, by omega, Kp.refl _ _⟩
              case round =>
                obtain ⟨j, rfl, hj1, hj2, hk4⟩ := hrel
                by_cases hjt : j < T.length
                · obtain ⟨i, rfl⟩ : ∃ i, j = i + 1 := ⟨j - 1, by omega⟩
                  obtain ⟨g, rfl, d1, d2⟩ := (HA.out.no hk4) (i + 1) hjt
                  obtain ⟨_, eg, d3, d4⟩ := (HA.out.no hk4) i (by omega)
                  cases eg
                  have hlt2 := pairs_up HT.out i hjt
                  generalize (T.getD i default).1 = v0 at d3 hlt2
                  generalize (T.getD (i + 1) default).1 = v1 at d1 hlt2
                  have hle : decide (v1 ≤ v0) = false := decide_eq_false (by omega)
                  have hij : ((i : Int) + 1 : Int) < (T.length : Int) := by omega
                  have hi0 : (0 : Int) ≤ (i : Int) := by omega
                  clear d2 d4 hlt2
                  go_wp2_with fail
                  go_quiet (fail)
                  go_wp2
                  go_roundw
                  case rel => exact ⟨i + 1 + 1, by go_num, by omega, by omega, hk4.drewN _⟩
                  case measure => simp [intOf]; omega
                · go_wp2_with fail
                  go_meet
                  case rel => exact ⟨rfl, ⟨_, _, _, _, HB3.out.no hk4, HU3.out⟩, HH3.out.trans hk4.no⟩
            · have f2 : (ko == 2) = false := by simpa using k2
              clear k2
              go_wp2_with fail
              go_meet
              case rel => exact ⟨rfl, ⟨_, _, _, _, hb, HU.out⟩, hK⟩
          case rest =>
            clear hX hb hK HU c0
            obtain ⟨rfl, ⟨l, h, a, cap, hb, hu⟩, hK⟩ := hcut
            have hl1 : l.length ≤ 1000 := by have := hu.le; omega
            have hup := hu.up
            have HU := Lib.hid hu
            clear hu
            go_wp2_with fail
            refine (waiting_any hb hl1).mono ?_
            rintro e w3 ⟨o3, co3, rfl, ho3, hk3⟩
            have hI3 := ho3.ints
            have hb3 := hb.no hk3
            have hK3 := hK.trans hk3.no
            have hup2 := fun i => up_get hup i
            rw [ids_length] at hup2
            have HI := Lib.hid hI3
            have HP := Lib.hid hup2
            have HB3 := Lib.hid hb3
            have HH3 := Lib.hid hK3
            clear hI3 hup hup2 hb hK hk3 ho3 hb3 hK3
            go_wp2_with fail
            go_loopw [14] (fun q wr => ∃ (j : Nat), q = .int .i64 j ∧ 1 ≤ j ∧ (j ≤ l.length ∨ j = 1) ∧ Kp (fun _ => False) w3 wr) (fun q _ => l.length - (intOf q).toNat)
            case atStart => exact ⟨1, rfl, by omega, by omega, Kp.refl _ _⟩
            case round =>
              obtain ⟨j, rfl, hj1, hj2, hk4⟩ := hrel
              by_cases hjt : j < l.length
              · obtain ⟨i, rfl⟩ : ∃ i, j = i + 1 := ⟨j - 1, by omega⟩
                obtain ⟨g, og, rfl, d1⟩ := (HI.out.kp hk4 (fun _ _ h => h)).at (show i + 1 < (ids l).length by rw [ids_length]; exact hjt)
                obtain ⟨_, _, eg, d3⟩ := (HI.out.kp hk4 (fun _ _ h => h)).at (show i < (ids l).length by rw [ids_length]; omega)
                cases eg
                have hlt2 := HP.out i hjt
                generalize (ids l).getD i 0 = v0 at d3 hlt2
                generalize (ids l).getD (i + 1) 0 = v1 at d1 hlt2
                have hle : decide (v1 ≤ v0) = false := decide_eq_false (by omega)
                have hij : ((i : Int) + 1 : Int) < (l.length : Int) := by omega
                have hi0 : (0 : Int) ≤ (i : Int) := by omega
                clear hlt2
                go_wp2_with fail
                go_quiet (fail)
                go_wp2
                go_roundw
                case rel => first | exact ⟨i + 1 + 1, by go_num, by omega, by omega, hk4.drewN _⟩ | ((repeat apply Exists.intro); exact ⟨⟨i + 1 + 1, by go_num, by omega, by omega, hk4.drewN _⟩, rfl⟩)
                case measure => simp [intOf]; omega
              · go_wp2_with fail
                go_roundw
                case rel => first | exact ⟨k + 1, l, h, a, cap, by go_num, by omega, by omega, HB3.out.no hk4, HU.out, HH3.out.trans hk4.no⟩ | ((repeat apply Exists.intro); exact ⟨⟨k + 1, l, h, a, cap, by go_num, by omega, by omega, HB3.out.no hk4, HU.out, HH3.out.trans hk4.no⟩, rfl⟩)
                case measure => simp [intOf]; omega
    · have hl1 : l.length ≤ 1000 := by have := HU.out.le; omega
      clear HU
      by_cases hn : k < n
      · obtain rfl : k = 90 := by omega
        have hnI : (90 : Int) < (n : Int) := by omega
        clear hlt hk hk9
        go_wp2_with fail
        refine (waiting_any hb hl1).mono ?_
        rintro e w3 ⟨o3, co3, rfl, ho3, hk3⟩
        have hb3 := hb.no hk3
        have hK3 := hK.trans hk3.no
        have hB3 : ∀ j, Foot b a j → j < wr.heap.size := fun j hj => (hb.foot hj).2
        clear hb hK hk3
        go_wp2_with fail
        refine (clear_any hb3 hl1).mono ?_
        rintro e w4 ⟨o4, co4, rfl, ho4, hb4, hk4⟩
        have hK4 := hK3.trans (hb3.kpB hk4)
        have hI3 : Ints w4 o3 (ids l) := (ho3.kp hk4 (fun g hg e => by have h1 := (ho3.from hg).1; have h2 := hB3 g e; omega)).ints
        have hI4 : Ints w4 o4 (ids l) := ho4.ints
        have hL := lists_any hI4 hI3 (by rw [ids_length]; omega) co4 co3
        rw [ids_length, decide_eq_true (rfl : ids l = ids l)] at hL
        have HL := Lib.hid hL
        clear hb3 hK3 hk4 ho3 ho4 hI3 hI4 hL
        go_wp2_with (first | (go_at_call 18; refine HL.out.mono ?_; rintro e w5 ⟨rfl, hk5⟩))
        have hb5 := hb4.no hk5
        have hK5 := hK4.trans hk5.no
        clear hb4 hK4 hk5
        refine (waiting_any hb5 (by decide)).mono ?_
        rintro e w6 ⟨o6, co6, rfl, ho6, hk6⟩
        have hK6 := hK5.trans hk6.no
        go_wp2_with fail
        go_ret
        exact ⟨rfl, (HB.out ▸ hK6).belowW⟩
      · obtain rfl : k = n := by omega
        clear hlt hk hn
        go_wp2_with fail
        refine (waiting_any hb hl1).mono ?_
        rintro e w3 ⟨o3, co3, rfl, ho3, hk3⟩
        have hb3 := hb.no hk3
        have hK3 := hK.trans hk3.no
        have hB3 : ∀ j, Foot b a j → j < wr.heap.size := fun j hj => (hb.foot hj).2
        clear hb hK hk3
        go_wp2_with fail
        refine (clear_any hb3 hl1).mono ?_
        rintro e w4 ⟨o4, co4, rfl, ho4, hb4, hk4⟩
        have hK4 := hK3.trans (hb3.kpB hk4)
        have hI3 : Ints w4 o3 (ids l) := (ho3.kp hk4 (fun g hg e => by have h1 := (ho3.from hg).1; have h2 := hB3 g e; omega)).ints
        have hI4 : Ints w4 o4 (ids l) := ho4.ints
        have hL := lists_any hI4 hI3 (by rw [ids_length]; omega) co4 co3
        rw [ids_length, decide_eq_true (rfl : ids l = ids l)] at hL
        have HL := Lib.hid hL
        clear hb3 hK3 hk4 ho3 ho4 hI3 hI4 hL
        go_wp2_with (first | (go_at_call 18; refine HL.out.mono ?_; rintro e w5 ⟨rfl, hk5⟩))
        have hb5 := hb4.no hk5
        have hK5 := hK4.trans hk5.no
        clear hb4 hK4 hk5
        refine (waiting_any hb5 (by decide)).mono ?_
        rintro e w6 ⟨o6, co6, rfl, ho6, hk6⟩
        have hK6 := hK5.trans hk6.no
        go_wp2_with fail
        go_ret
        exact ⟨rfl, (HB.out ▸ hK6).belowW⟩

set_option maxRecDepth 100000 in
theorem lifted (os : Os) (started : os.Started) (H : Type) (enc : TypeId × Value → H) :
    ReturnsInHanded {} Try.checked os 7 .any (Rows.readsOrderSpec.pre6 enc Try.prog Try.f7 Rows.readsOrderRow.domain false) (Rows.readsOrderSpec.post enc Try.prog Try.f7 false true false false) := by
  refine returnsInHanded_of_change_sized (C := Try.checked) own started (by kernel_rfl) Try.func7
    (ChangeSpec.witness6 (enc := enc) (C := Try.checked) false ⟨#[], #[.int .i64 0, .slice none 0 0, .slice none 0 0], []⟩ 8 (by kernel_rfl) (by kernel_rfl) (by kernel_rfl) (by kernel_rfl)) ?_
  intro W base args ds gs before hval0 hW _ hsz _
  have hval : ∀ (j : Nat) t v, Try.f7.params[j]? = some t → args[j]? = some v → Value.okWide Try.prog W .any base t v := hval0
  have hW' := hW
  obtain ⟨p, q, hA0, hV, rfl, hfz, hnd⟩ := hW
  have hA : DataW.TrodAll enc Try.prog W 0 (fun _ => true) true Try.f7.params.toList args.toList ds p := hA0
  rw [Try.params7] at hA hval
  obtain ⟨v0, vs0, d0, ds0, p0, q0, hargs, rfl, rfl, h0, r0⟩ := trodAll_cons hA
  obtain ⟨v1, vs1, d1, ds1, p1, q1, rfl, rfl, rfl, h1, r1⟩ := trodAll_cons r0
  obtain ⟨v2, vs2, d2, ds2, p2, q2, rfl, rfl, rfl, h2, r2⟩ := trodAll_cons r1
  obtain ⟨rfl, rfl, rfl⟩ := trodAll_nil r2
  obtain rfl : args = #[v0, v1, v2] := by cases args; simp_all
  obtain ⟨rfl, rfl⟩ := trodVars_none hV
  obtain ⟨a0, rfl, rfl, _, w0⟩ := open_int Try.underlying3 (hval 0 3 v0 rfl rfl) h0
  have o1 := hval 1 22 v1 rfl rfl
  have o2 := hval 2 23 v2 rfl rfl
  obtain ⟨x, n, cx, O, rfl, hO, mx⟩ := open_ops o1 h1
  obtain ⟨y, zs, cy, rfl, hY, hZ⟩ := open_il o2 h2
  have my := il_le hsz (j := 2) rfl rfl hZ
  refine (walk a0 x n cx O y zs cy W hO mx hY my).mono fun e W' ⟨he, hg⟩ => ?_
  subst he
  exact ⟨_, rfl, law_post laidOut (of_decide_eq_true (by kernel_rfl)) rfl Try.underlying4 rfl ⟨rfl, rfl, rfl⟩ hW' hg⟩

theorem over : Rows.readsOrderRow.holds Try.pinned (OpenSpec.ofChange Rows.readsOrderSpec) :=
  OpenClaim.holds_of_wide 7 Try.f7 rfl rfl rfl rfl rfl rfl rfl ⟨rfl, rfl, rfl, rfl, rfl⟩ rfl rfl rfl rfl rfl (by kernel_rfl) Try.func7 (by kernel_rfl)
    (of_decide_eq_true (by kernel_rfl)) (by unfold Func.isWrapper; first | (rw [if_pos (by decide +kernel)]; kernel_rfl) | (rw [if_neg (by decide +kernel)]; exact ⟨rfl, rfl⟩))
    (fun os started H enc _ => lifted os started H enc)

theorem proved : Rows.ReadsOrderSaid :=
  over
#print axioms proved
end Go.Proofs.Ytdkgbjbfmempdaa.readsOrder
