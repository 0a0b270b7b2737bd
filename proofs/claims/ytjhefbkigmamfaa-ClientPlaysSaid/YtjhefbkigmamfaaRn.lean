/-
  The document's New, next, Tick, Calls, Done, walked once. Where the counts are few.
-/
import Derived.Test.YtjhefbkigmamfaaRc
namespace Go.Proofs.Ytjhefbkigmamfaa
open Go.ChangeShapes Go.WideShapes Go.ChangeAt Go.RowKit
set_option linter.unusedVariables false
set_option linter.unusedSimpArgs false

set_option maxHeartbeats 4000000 in
theorem rnew_good {w : World} {id : Int} {a : Option Addr} {zs : List Int} {c : Nat} {pat : Int} (hr : Row w a (ints zs)) (hg : Good id zs pat) :
    Calls Try.prog 19 #[.int .i64 id, .slice a zs.length c, .int .i64 pat] w fun e w' => ∃ R b sa sc, e = .returned (.pointer (some ⟨b, 0, none⟩)) ∧ RC w' w.heap.size R b (cv0 sa zs sc id pat) ∧ Kp (fun _ => False) w w' := by
  obtain ⟨h1, h2, h3, h4, h5⟩ := hg
  obtain ⟨hrs, hl1, hl7⟩ := right_rising h3
  have HR25 := right35 hr (by omega) c
  rw [h3] at HR25
  have H25 := Lib.hid HR25
  have HR := Lib.hid hr
  obtain ⟨n, hn⟩ : ∃ n, n = zs.length := ⟨_, rfl⟩
  have HL1 := Lib.hid hl1
  have HL7 := Lib.hid hl7
  have n1 : ¬ id < 1 := by omega
  have n2 : ¬ 1000 < id := by omega
  have n3 : ¬ pat < 1 := by omega
  have n4 : ¬ 1000 < pat := by omega
  have H1 := Lib.hid h1
  have H2 := Lib.hid h2
  have H4 := Lib.hid h4
  have H5 := Lib.hid h5
  rw [← hn]
  have HN := Lib.hid hn
  clear hr hn hrs hl1 hl7 HR25 h3 h1 h2 h4 h5
  go_enter Try.func19, Try.ntmps19
  go_wp2_with fail
  rw [HN.out]
  refine H25.out.mono ?_
  rintro e w1 ⟨rfl, hk1⟩
  have HK1 := Lib.hid hk1
  clear hk1
  go_wp2_with (at_builtin; refine Stop.mk ?_)
  unfold Stop
  have hs1 := HK1.out.size
  refine wpList_app rfl _ _ 22 rfl w1.heap.size 3 info3 Try.underlying22 rfl (by decide) rfl (Owns.lit (heap_new w1 _) (Nat.le_refl _)) (b := a) (m := zs.length) (c := c) (news := ints zs) rfl (by rw [ints_length]; omega) ((HR.out.no (HK1.out.alloc _)).news) (one_ints zs) (by have := HL7.out; unfold maxLen; omega) (by have := HL7.out; omega) (by simp) ?_
  intro sa sc w2 ho hk2
  rw [Nat.zero_add, List.nil_append] at ho
  rw [Nat.zero_add]
  have HK2 := Lib.hid (show Kp (fun _ => False) w w2 from (HK1.out.alloc (.cells #[] 3)).andThen hk2 (fun i hi (e : some i = some w1.heap.size) => by have := Option.some.inj e; omega))
  have HO := Lib.hid ho
  have hs2 := HK2.out.size
  clear ho hk2
  go_wp2_with fail
  have hB : ∀ w3, w3.heap[w2.heap.size]? = some (.cells (cv0 sa zs sc id pat).rcells 76 (0, 0)) → Kp (fun _ => False) w2 w3 → w2.heap.size < w3.heap.size → RC w3 w.heap.size (fun j => some j = blockOf sa) w2.heap.size (cv0 sa zs sc id pat) := fun w3 hb hk hl =>
    ⟨hb, by omega, HO.out.row.no hk, fun g hg => hg.symm, HL1.out, HL7.out, HL1.out, H1.out, H2.out, H4.out, H5.out, Row.nil _ _, In.none _, Nat.zero_le _, Low.nil _ _ _, (fun r hr => by cases hr), Owns.nil _ _ _ _, (fun q hq => by cases hq),
      (fun j hj e => by
        have := (HO.out.from e.symm).2
        rcases hj with h | h
        · omega
        · cases h),
      (fun j hj => by
        have := HO.out.from hj.symm
        omega)⟩
  go_ret
  exact ⟨_, _, sa, sc, rfl, hB _ (heap_new w2 _) ((Kp.refl _ _).alloc _) (by simp), HK2.out.alloc _⟩

set_option maxHeartbeats 4000000 in
theorem rnew_bad {w : World} {id : Int} {a : Option Addr} {zs : List Int} {c : Nat} {pat : Int} (hr : Row w a (ints zs)) (hm : zs.length ≤ 17592186043904) (hg : ¬ Good id zs pat) :
    Calls Try.prog 19 #[.int .i64 id, .slice a zs.length c, .int .i64 pat] w fun e w' => e = .returned (.pointer none) ∧ Kp (fun _ => False) w w' := by
  have HR25 := right35 hr hm c
  have H25 := Lib.hid HR25
  have HG := Lib.hid hg
  clear hr hm HR25 hg
  by_cases h1 : id < 1
  · go_enter Try.func19, Try.ntmps19
    go_wp2_with fail
    go_ret
    exact ⟨rfl, Kp.refl _ _⟩
  · by_cases h2 : 1000 < id
    · go_enter Try.func19, Try.ntmps19
      go_wp2_with fail
      go_ret
      exact ⟨rfl, Kp.refl _ _⟩
    · cases h3 : rightS zs with
      | false =>
        rw [h3] at H25
        clear h3
        go_enter Try.func19, Try.ntmps19
        go_wp2_with fail
        refine H25.out.mono ?_
        rintro e w1 ⟨rfl, hk1⟩
        go_wp2_with fail
        go_ret
        exact ⟨rfl, hk1⟩
      | true =>
        have H3 := Lib.hid h3
        rw [h3] at H25
        clear h3
        by_cases h4 : pat < 1
        · go_enter Try.func19, Try.ntmps19
          go_wp2_with fail
          refine H25.out.mono ?_
          rintro e w1 ⟨rfl, hk1⟩
          go_wp2_with fail
          go_ret
          exact ⟨rfl, hk1⟩
        · by_cases h5 : 1000 < pat
          · go_enter Try.func19, Try.ntmps19
            go_wp2_with fail
            refine H25.out.mono ?_
            rintro e w1 ⟨rfl, hk1⟩
            go_wp2_with fail
            go_ret
            exact ⟨rfl, hk1⟩
          · exact absurd ⟨by omega, by omega, H3.out, by omega, by omega⟩ HG.out

theorem rnext_any {w : World} {B : Nat} {R : Nat → Prop} {b : Nat} {v : CV} (k : RC w B R b v) : Calls Try.prog 48 #[.pointer (some ⟨b, 0, none⟩)] w fun r w' => r = .returned (.tuple #[]) ∧ RC w' B R b { v with at_ := nextAt v } ∧ Kp (fun j => j = b) w w' := by
  have c0 := cell_of k.blk 7 (v := .slice v.sa v.sl.length v.sc) rfl
  have c1 := cell_of k.blk 2 (v := .int .i64 v.at_) rfl
  have f1 := free_of k.blk 2
  have h1 := k.one
  have h7 := k.seven
  have hat := k.at_
  have w1 : IntKind.i64.wrap ((v.at_ : Int) + 1) = (v.at_ : Int) + 1 := IntWalk.i64_in _ (by omega)
  have hmod : ((v.at_ : Int) + 1).tmod (v.sl.length : Int) = ((nextAt v : Nat) : Int) := by
    rw [Int.tmod_eq_emod_of_nonneg (by omega)]
    simp [nextAt]
  have HK := Lib.hid k
  have HN := Lib.hid (show nextAt v < v.sl.length from Nat.mod_lt _ k.one)
  generalize v.sl.length = n at c0 h1 h7 hmod hat
  have hne : ¬ (n : Int) = 0 := by omega
  clear k h1 h7 hat
  go_enter Try.func48, Try.ntmps48
  go_wp2_with fail
  go_region
  go_end0
  have k := HK.out
  have hk : Kp (fun j => j = b) w (w.setCell ⟨b, 2, none⟩ (.int .i64 (nextAt v : Nat))) := (Kp.refl (fun j => j = b) _).setCell (p := ⟨b, 2, none⟩) (.inl rfl) _
  exact ⟨rfl, k.set (w' := (w.setCell ⟨b, 2, none⟩ (.int .i64 (nextAt v : Nat))).drew) hk.drew { v with at_ := nextAt v } (heap_set k.blk 2 (.int .i64 (nextAt v : Nat))) ⟨rfl, rfl, rfl, rfl, rfl, rfl, rfl⟩ HN.out ⟨k.ord, k.ordR, k.ordL⟩ ⟨k.ans, k.rec_⟩, hk.drew⟩
end Go.Proofs.Ytjhefbkigmamfaa
