/-
  New, walked once. The list of servers is as long as memory lets it be.
-/
import Derived.Test.YtjhefbkigmamfaaRs
namespace Go.Proofs.Ytjhefbkigmamfaa
open Go.ChangeShapes Go.WideShapes Go.ChangeAt Go.RowKit
set_option linter.unusedVariables false

theorem In.none (R : Nat → Prop) : In R none := fun g hg => by cases hg
/-- May such a client be? -/
def Good (id : Int) (zs : List Int) (pat : Int) : Prop := 1 ≤ id ∧ id ≤ 1000 ∧ rightS zs = true ∧ 1 ≤ pat ∧ pat ≤ 1000
def ord0 : OrdV := ⟨0, 0, 0, none, [], 0⟩
def ans0 : AnsV := ⟨0, 0, 0, 0, none, [], 0, 0⟩
/-- A new one. -/
def cv0 (sa : Option Addr) (zs : List Int) (sc : Nat) (id pat : Int) : CV := ⟨sa, zs, sc, 0, id, pat, 0, 0, 0, 0, 0, ord0, ans0, none, [], 0⟩

set_option maxHeartbeats 4000000 in
theorem new_good {w : World} {id : Int} {a : Option Addr} {zs : List Int} {c : Nat} {pat : Int} (hr : Row w a (ints zs)) (hg : Good id zs pat) :
    Calls Try.prog 9 #[.int .i64 id, .slice a zs.length c, .int .i64 pat] w fun e w' => ∃ R b sa sc, e = .returned (.tuple #[.pointer (some ⟨b, 0, none⟩), .int .i64 0]) ∧ Client w' w.heap.size R b (cv0 sa zs sc id pat) ∧ Kp (fun _ => False) w w' := by
  obtain ⟨h1, h2, h3, h4, h5⟩ := hg
  obtain ⟨hrs, hl1, hl7⟩ := right_rising h3
  have HR25 := right25 hr (by omega) c
  rw [h3] at HR25
  have H25 := Lib.hid HR25
  have HC := Lib.hid (fun w' (k : Kp (fun _ => False) w w') => clone26 (hr.no k) (one_ints zs) (by rw [ints_length]; omega) c)
  obtain ⟨n, hn⟩ : ∃ n, n = zs.length := ⟨_, rfl⟩
  have HRS := Lib.hid hrs
  have HL1 := Lib.hid hl1
  have HL7 := Lib.hid hl7
  have n1 : ¬ id < 1 := by omega
  have n2 : ¬ 1000 < id := by omega
  have n3 : ¬ pat < 1 := by omega
  have n4 : ¬ 1000 < pat := by omega
  have H1 := Lib.hid h1
  have H2 := Lib.hid h2
  have H4 := Lib.hid h4
  have H5 := Lib.hid h5
  rw [← hn]
  have HN := Lib.hid hn
  clear hr hn hrs hl1 hl7 HR25 h3 h1 h2 h4 h5
  go_enter Try.func9, Try.ntmps9
  go_wp2_with fail
  rw [HN.out]
  refine H25.out.mono ?_
  rintro e w1 ⟨rfl, hk1⟩
  have hC := HC.out w1 hk1
  rw [ints_length] at hC
  have HC1 := Lib.hid hC
  have HK1 := Lib.hid hk1
  clear hC hk1
  go_wp2_with fail
  refine HC1.out.mono ?_
  rintro e w2 ⟨sa, sc, rfl, ho, hk2⟩
  have HK2 := Lib.hid (HK1.out.andThen hk2 (fun _ _ h => h))
  have HO := Lib.hid ho
  have hs2 := hk2.size
  have hs1 := HK1.out.size
  clear ho hk2
  go_wp2_with fail
  have hB : ∀ w3, w3.heap[w2.heap.size]? = some (.cells (cv0 sa zs sc id pat).cells 65 (0, 0)) → Kp (fun _ => False) w2 w3 → w2.heap.size < w3.heap.size → Client w3 w.heap.size (fun j => some j = blockOf sa) w2.heap.size (cv0 sa zs sc id pat) := fun w3 hb hk hl =>
    ⟨hb, by omega, HO.out.row.no hk, fun g hg => hg.symm, HL1.out, HL7.out, HRS.out, HL1.out, H1.out, H2.out, H4.out, H5.out, Row.nil _ _, In.none _, Nat.zero_le _, Row.nil _ _, In.none _, (fun r hr => by cases hr), Owns.nil _ _ _ _, (fun q hq => by cases hq),
      (fun j hj e => by
        have := (HO.out.from e.symm).2
        rcases hj with h | h
        · omega
        · cases h),
      (fun j hj => by
        have := HO.out.from hj.symm
        omega)⟩
  refine bodyPost_ret (v := .tuple #[.pointer (some ⟨w2.heap.size, 0, none⟩), .int .i64 0]) (by simp [results, Try.results9, go_sem]) rfl ⟨_, _, sa, sc, rfl, hB _ (heap_new w2 _) ((Kp.refl _ _).alloc _) (by simp), HK2.out.alloc _⟩

set_option maxHeartbeats 4000000 in
theorem new_bad {w : World} {id : Int} {a : Option Addr} {zs : List Int} {c : Nat} {pat : Int} (hr : Row w a (ints zs)) (hm : zs.length ≤ 17592186043904) (hg : ¬ Good id zs pat) :
    Calls Try.prog 9 #[.int .i64 id, .slice a zs.length c, .int .i64 pat] w fun e w' => e = .returned (.tuple #[.pointer none, .int .i64 1]) ∧ Kp (fun _ => False) w w' := by
  have HR25 := right25 hr hm c
  have H25 := Lib.hid HR25
  have HG := Lib.hid hg
  clear hr hm HR25 hg
  by_cases h1 : id < 1
  · go_enter Try.func9, Try.ntmps9
    go_wp2_with fail
    exact bodyPost_ret (v := .tuple #[.pointer none, .int .i64 1]) (by simp [results, Try.results9, go_sem]) rfl ⟨rfl, Kp.refl _ _⟩
  · by_cases h2 : 1000 < id
    · go_enter Try.func9, Try.ntmps9
      go_wp2_with fail
      exact bodyPost_ret (v := .tuple #[.pointer none, .int .i64 1]) (by simp [results, Try.results9, go_sem]) rfl ⟨rfl, Kp.refl _ _⟩
    · cases h3 : rightS zs with
      | false =>
        rw [h3] at H25
        clear h3
        go_enter Try.func9, Try.ntmps9
        go_wp2_with fail
        refine H25.out.mono ?_
        rintro e w1 ⟨rfl, hk1⟩
        go_wp2_with fail
        exact bodyPost_ret (v := .tuple #[.pointer none, .int .i64 1]) (by simp [results, Try.results9, go_sem]) rfl ⟨rfl, hk1⟩
      | true =>
        have H3 := Lib.hid h3
        rw [h3] at H25
        clear h3
        by_cases h4 : pat < 1
        · go_enter Try.func9, Try.ntmps9
          go_wp2_with fail
          refine H25.out.mono ?_
          rintro e w1 ⟨rfl, hk1⟩
          go_wp2_with fail
          exact bodyPost_ret (v := .tuple #[.pointer none, .int .i64 1]) (by simp [results, Try.results9, go_sem]) rfl ⟨rfl, hk1⟩
        · by_cases h5 : 1000 < pat
          · go_enter Try.func9, Try.ntmps9
            go_wp2_with fail
            refine H25.out.mono ?_
            rintro e w1 ⟨rfl, hk1⟩
            go_wp2_with fail
            exact bodyPost_ret (v := .tuple #[.pointer none, .int .i64 1]) (by simp [results, Try.results9, go_sem]) rfl ⟨rfl, hk1⟩
          · exact absurd ⟨by omega, by omega, H3.out, by omega, by omega⟩ HG.out
end Go.Proofs.Ytjhefbkigmamfaa
