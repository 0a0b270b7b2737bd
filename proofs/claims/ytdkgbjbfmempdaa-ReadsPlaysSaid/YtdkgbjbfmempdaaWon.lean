/-
  vote.Count and vote.Won, each walked once: on lists of ints of any length that memory holds, in whatever order the map is gone through.
-/
import Derived.Test.YtdkgbjbfmempdaaCnt
namespace Go.Proofs.Ytdkgbjbfmempdaa
open Go.RowKit
set_option linter.unusedVariables false

/-- How many of a list's numbers are among others. -/
def among (l y : List Int) : Nat := l.countP fun x => decide (x ∈ y)
def cnt (s y : List Int) : Nat := among (once s) y
theorem among_le (l y : List Int) : among l y ≤ l.length := List.countP_le_length
theorem among_cons (x : Int) (l y : List Int) : among (x :: l) y = among l y + if x ∈ y then 1 else 0 := by
  unfold among
  by_cases h : x ∈ y <;> simp [h]
theorem among_all {d s : List Int} (y : List Int) (hd : d.Nodup) (hs : s.Nodup) (h1 : ∀ x ∈ d, x ∈ s) (h2 : ∀ x ∈ s, x ∈ d) : among d y = among s y :=
  ((List.perm_ext_iff_of_nodup hd hs).2 fun x => ⟨h1 x, h2 x⟩).countP_eq _

theorem Rng.keys {w : World} {b r : Nat} {m : List (Int × Value)} {done : List Int} (h : Rng w b r m done) : done.Nodup ∧ ∀ k ∈ done, k ∈ m.map (·.1) := by
  obtain ⟨_, _, _, _, _, _, _, h1, h2, _⟩ := h
  exact ⟨h1, h2⟩

set_option maxHeartbeats 400000 in
theorem count_any {w : World} {a c : Option Addr} {zs ys : List Int} (hI : Ints w a zs) (hJ : Ints w c ys) (hm : zs.length ≤ maxLen) (hm' : ys.length ≤ maxLen) (cap cap' : Nat) :
    Calls Try.prog 34 #[.slice a zs.length cap, .slice c ys.length cap'] w fun e w' => e = .returned (.int .i64 (cnt zs ys)) ∧ Kp (fun _ => False) w w' := by
  have hl := once_length zs
  go_enter Try.func34, Try.ntmps34
  go_wp2_with fail
  refine (set_any hJ hm' cap').mono ?_
  rintro e w1 ⟨rfl, hM1, hk1⟩
  go_wp2_with fail
  refine (set_any (hI.no hk1) hm cap).mono ?_
  rintro e w2 ⟨rfl, hM2, hk2⟩
  have hM1' : IMap w2 w.heap.size (tr (once ys)) := hM1.kp hk2 (fun h => h)
  have z1 := hM1.lt
  have z2 := hM2.lt
  obtain ⟨B, hB⟩ : ∃ B, B = w.heap.size := ⟨_, rfl⟩
  obtain ⟨C, hC⟩ : ∃ C, C = w1.heap.size := ⟨_, rfl⟩
  rw [← hB] at hM1' z1 ⊢
  rw [← hC] at hM2 z1 z2 ⊢
  have HB := Lib.hid hB
  have HI := Lib.hid hI
  clear hB hC hM1 hI hJ
  have hK2 : Kp (fun _ => False) w w2 := hk1.andThen hk2 (fun _ _ h => h)
  clear hk1 hk2
  unfold maxLen at hm hm'
  go_wp2_with (first | (at_range; refine wpList_range_i Try.underlying70 rfl _ rfl rfl hM2 ?_; intro w3 hR3 hk3))
  obtain ⟨R, hR⟩ : ∃ R, R = w2.heap.size := ⟨_, rfl⟩
  rw [← hR] at hR3 z2 ⊢
  have hM3 : IMap w3 B (tr (once ys)) := hM1'.kp hk3 (fun h => h)
  have hK3 : Kp (fun _ => False) w w3 := hK2.andThen hk3 (fun _ _ h => h)
  have hwR : w.heap.size ≤ R := by have := hK2.size; omega
  clear hR hM2 hM1' hk3 hK2
  go_frame
  go_loopw [5] (fun i wr => ∃ done : List Int, i = .int .i64 (among done ys) ∧ Rng wr C R (tr (once zs)) done ∧ IMap wr B (tr (once ys)) ∧ Kp (fun _ => False) w wr) (fun _ wr => (once zs).length - (wr.iterSeen R).size)
  case atStart => exact ⟨[], by simp [among], hR3, hM3, hK3⟩
  case round =>
    obtain ⟨done, rfl, hRr, hMr, hKr⟩ := hrel
    have hseen := hRr.seen
    have hle := hRr.le
    have hal := among_le done ys
    have hlen : (tr (once zs)).length = (once zs).length := by simp [tr]
    rw [hlen] at hle
    have HS := Lib.hid hseen
    have HX := Lib.hid hlen
    clear hseen hlen
    go_wp2_with (at_next; refine wpList_next_i rfl _ rfl rfl hRr ?_ ?_)
    · intro hall'
      have hall : ∀ x ∈ once zs, x ∈ done := fun x hx => hall' x (.bool true) (List.mem_map_of_mem (f := fun x => (x, Value.bool true)) hx)
      clear hall'
      have hin := hRr.keys
      rw [tr_keys] at hin
      have hfin := among_all ys hin.1 (once_nodup zs) hin.2 hall
      have HF := Lib.hid hfin
      clear hfin hall hin
      go_wp2
      go_ret
      refine ⟨?_, hKr⟩
      show Ending.returned (.int .i64 _) = _
      unfold cnt
      rw [HF.out]
    · intro k v w4 hkv hnd hR4 hk4 hen
      obtain ⟨hks, rfl⟩ := tr_val hkv
      have hM4 : IMap w4 B (tr (once ys)) := hMr.kp hk4 (by omega)
      have hK4 : Kp (fun _ => False) w w4 := hKr.andThen hk4 (fun i hi e => by omega)
      have hle4 := hR4.le
      have hse4 := hR4.seen
      rw [HX.out, List.length_cons] at hle4
      rw [List.length_cons] at hse4
      have HS4 := Lib.hid hse4
      have hcons := among_cons k done ys
      have hv := getm_tr (once ys) k
      clear hse4 hkv hnd hks
      by_cases hky : k ∈ ys
      · rw [if_pos hky] at hcons
        rw [decide_eq_true ((mem_once _ _).2 hky)] at hv
        have HV := Lib.hid hv
        have HC := Lib.hid hcons
        clear hv hcons hky
        go_wp2_with (first | (at_lookup; refine wpList_lookup_i Try.underlying70 Try.underlying3 rfl _ _ rfl rfl hM4 zeroBool rfl HV.out ?_))
        go_roundw
        case rel => exact ⟨k :: done, by rw [HC.out]; go_num, hR4, hM4, hK4⟩
        case measure => rw [HS.out, HS4.out]; omega
      · rw [if_neg hky] at hcons
        rw [decide_eq_false (fun h => hky ((mem_once _ _).1 h))] at hv
        have HV := Lib.hid hv
        have HC := Lib.hid hcons
        clear hv hcons hky
        go_wp2_with (first | (at_lookup; refine wpList_lookup_i Try.underlying70 Try.underlying3 rfl _ _ rfl rfl hM4 zeroBool rfl HV.out ?_))
        go_frame
        go_roundw
        case rel => exact ⟨k :: done, by rw [HC.out]; rfl, hR4, hM4, hK4⟩
        case measure => rw [HS.out, HS4.out]; omega

/-- Are they more than half? -/
def won (s y : List Int) : Bool := decide ((once s).length < 2 * cnt s y)

theorem won_any {w : World} {a c : Option Addr} {zs ys : List Int} (hI : Ints w a zs) (hJ : Ints w c ys) (hm : zs.length ≤ 35184372088832) (hm' : ys.length ≤ maxLen) (cap cap' : Nat) :
    Calls Try.prog 23 #[.slice a zs.length cap, .slice c ys.length cap'] w fun e w' => e = .returned (.bool (won zs ys)) ∧ Kp (fun _ => False) w w' := by
  have hl := once_length zs
  have hc : cnt zs ys ≤ (once zs).length := among_le _ _
  have hmax : zs.length ≤ maxLen := by unfold maxLen; omega
  have HM := Lib.hid hmax
  have HM' := Lib.hid hm'
  have HI := Lib.hid hI
  have HJ := Lib.hid hJ
  clear hmax hm' hI hJ
  go_enter Try.func23, Try.ntmps23
  go_wp2_with fail
  refine (count_any HI.out HJ.out HM.out HM'.out cap cap').mono ?_
  rintro e w1 ⟨rfl, hk1⟩
  go_wp2_with fail
  refine (set_any (HI.out.no hk1) HM.out cap).mono ?_
  rintro e w2 ⟨rfl, hM2, hk2⟩
  have hn : (tr (once zs)).length = (once zs).length := by simp [tr]
  have HN := Lib.hid hn
  clear hn
  go_wp2_with (at_len; refine wpList_len_i Try.underlying70 rfl _ rfl rfl hM2 HN.out ?_)
  go_ret
  refine ⟨?_, hk1.andThen hk2 (fun _ _ h => h)⟩
  show Ending.returned (.bool _) = _
  unfold won
  congr 2
  rw [decide_eq_decide]
  omega
end Go.Proofs.Ytdkgbjbfmempdaa
