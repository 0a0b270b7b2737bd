/-
  Index and to, each walked once: the place of a server. No condition.
-/
import Derived.Test.YtjhefbkigmamfaaCg
namespace Go.Proofs.Ytjhefbkigmamfaa
open Go.ChangeShapes Go.WideShapes Go.ChangeAt Go.RowKit
set_option linter.unusedVariables false

/-- Where x lies in a list: at the first such place, or nowhere. -/
def At (zs : List Int) (x : Int) (j : Int) : Prop := (j = -1 ∧ x ∉ zs) ∨ ∃ i : Nat, j = i ∧ i < zs.length ∧ zs.getD i 0 = x
set_option maxHeartbeats 4000000 in
theorem index_any {w : World} {a : Option Addr} {zs : List Int} (hI : Row w a (ints zs)) (hm : zs.length ≤ 17592186043904) (cap : Nat) (x : Int) :
    Calls Try.prog 44 #[.slice a zs.length cap, .int .i64 x] w fun e w' => ∃ j : Int, e = .returned (.int .i64 j) ∧ At zs x j ∧ w' = w := by
  have HI := Lib.hid hI
  clear hI
  go_enter Try.func44, Try.ntmps44
  go_wp2_with fail
  go_loopw [8] (fun i wr => ∃ k : Nat, i = .int .i64 k ∧ k ≤ zs.length ∧ x ∉ zs.take k ∧ wr = w) (fun i _ => zs.length - (intOf i).toNat)
  case atStart => exact ⟨0, rfl, Nat.zero_le _, by simp, rfl⟩
  case round =>
    obtain ⟨k, rfl, hk, hn, rfl⟩ := hrel
    by_cases hlt : k < zs.length
    · obtain ⟨b, off, rfl, hc⟩ := HI.out.int hlt
      have hkI : (k : Int) < (zs.length : Int) := by omega
      have hk0 : (0 : Int) ≤ (k : Int) := by omega
      obtain ⟨z, hz⟩ : ∃ z, z = zs.getD k 0 := ⟨_, rfl⟩
      rw [← hz] at hc
      have HZ := Lib.hid hz
      by_cases hx : x = z
      · clear hz hn
        subst hx
        go_wp2_with fail
        go_ret
        exact ⟨k, rfl, .inr ⟨k, rfl, hlt, HZ.out.symm⟩, rfl⟩
      · have hne : (x == z) = false := by simpa using hx
        have hnn : x ∉ zs.take (k + 1) := by
          rw [List.take_succ_eq_append_getElem hlt, List.mem_append]
          rintro (h | h)
          · exact hn h
          · simp at h
            exact hx (h.trans (by rw [HZ.out]; simp [List.getD, hlt]))
        have HN := Lib.hid hnn
        clear hz hn hnn hx
        go_wp2_with fail
        go_roundw
        case rel => exact ⟨k + 1, by go_num, by omega, HN.out, trivial⟩
        case measure => simp [intOf]; omega
    · have e : zs.take k = zs := List.take_of_length_le (by omega)
      rw [e] at hn
      have HN := Lib.hid hn
      clear hn e
      go_wp2_with fail
      go_ret
      exact ⟨-1, rfl, .inl ⟨rfl, HN.out⟩, rfl⟩

set_option maxHeartbeats 4000000 in
theorem to_any {w : World} {B : Nat} {R : Nat → Prop} {b : Nat} {v : CV} (k : Client w B R b v) (x : Int) :
    Calls Try.prog 33 #[.pointer (some ⟨b, 0, none⟩), .int .i64 x] w fun e w' => (e = .returned (.bool false) ∧ x ∉ v.sl ∧ w' = w) ∨ ∃ i, e = .returned (.bool true) ∧ i < v.sl.length ∧ v.sl.getD i 0 = x ∧ Client w' B R b { v with at_ := i } ∧ Kp (fun j => j = b) w w' := by
  have c0 := cell_of k.blk 0 (v := .slice v.sa v.sl.length v.sc) rfl
  have c1 := cell_of k.blk 1 (v := .int .i64 v.at_) rfl
  have f1 := free_of k.blk 1
  have HI := Lib.hid (index_any k.srv (by have := k.seven; omega) v.sc x)
  have HK := Lib.hid k
  clear k
  go_enter Try.func33, Try.ntmps33
  go_wp2_with fail
  refine HI.out.mono ?_
  rintro e w1 ⟨j, rfl, hj, rfl⟩
  rcases hj with ⟨rfl, hn⟩ | ⟨i, rfl, hi, hx⟩
  · have HN := Lib.hid hn
    clear hn
    go_wp2_with fail
    go_ret
    exact .inl ⟨rfl, HN.out, rfl⟩
  · have HX := Lib.hid hx
    have HL := Lib.hid hi
    have hi0 : (0 : Int) ≤ (i : Int) := by omega
    clear hx hi
    go_wp2_with fail
    go_ret
    have k := HK.out
    have hk : Kp (fun j => j = b) w1 (w1.setCell ⟨b, 1, none⟩ (.int .i64 (i : Nat))) := (Kp.refl (fun j => j = b) _).setCell (p := ⟨b, 1, none⟩) (.inl rfl) _
    exact .inr ⟨i, rfl, HL.out, HX.out, k.set hk { v with at_ := i } (heap_set k.blk 1 (.int .i64 (i : Nat))) ⟨rfl, rfl, rfl, rfl, rfl, rfl, rfl⟩ HL.out ⟨k.ord, k.ordR, k.ordL⟩ ⟨k.ans, k.ansR, k.rec_⟩, hk⟩
end Go.Proofs.Ytjhefbkigmamfaa
