/-
  sameOrder, sameCall, sameAnswer, walked once: true where the two are the same. No condition.
-/
import Derived.Test.YtjhefbkigmamfaaSw
namespace Go.Proofs.Ytjhefbkigmamfaa
open Go.ChangeShapes Go.WideShapes Go.ChangeAt Go.RowKit
set_option linter.unusedVariables false
set_option linter.unusedSimpArgs false

set_option maxRecDepth 100000 in
set_option maxHeartbeats 4000000 in
theorem same_order {w : World} (k f m : Int) (dl : List Int) (a a' : Option Addr) (c c' : Nat) (h : Row w a (bytes dl)) (h' : Row w a' (bytes dl)) :
    Calls Try.prog 42 #[.agg #[.int .i64 k, .int .i64 f, .int .i64 m, .slice a dl.length c], .agg #[.int .i64 k, .int .i64 f, .int .i64 m, .slice a' dl.length c']] w fun e w' => e = .returned (.bool true) ∧ Kp (fun _ => False) w w' := by
  have hka := ((Kp.refl (fun _ => False) w).alloc (.cells #[.int .i64 k, .int .i64 f, .int .i64 m, .slice a dl.length c] 32)).alloc (.cells #[.int .i64 k, .int .i64 f, .int .i64 m, .slice a' dl.length c'] 54)
  have cv1 := (h.no hka).str c
  have cv2 := (h'.no hka).str c'
  have HK := Lib.hid hka
  obtain ⟨S, hS⟩ : ∃ S, S = strOfNums dl := ⟨_, rfl⟩
  rw [← hS] at cv1 cv2
  generalize dl.length = n at cv1 cv2 HK ⊢
  clear h h' hka hS
  go_enter Try.func42, Try.ntmps42
  go_wp2_with fail
  go_ret
  exact ⟨rfl, HK.out⟩
set_option maxRecDepth 100000 in
set_option maxHeartbeats 4000000 in
theorem same_call {w : World} (q : CallV) (a' : Option Addr) (c' : Nat) (h : Row w q.da (bytes q.dl)) (h' : Row w a' (bytes q.dl)) :
    Calls Try.prog 40 #[.agg q.cells.toArray, .agg ({ q with da := a', dc := c' } : CallV).cells.toArray] w fun e w' => e = .returned (.bool true) ∧ Kp (fun _ => False) w w' := by
  obtain ⟨tt, id, ki, se, sq, fr, mo, a, dl, c⟩ := q
  unfold CallV.cells
  dsimp only at h h' ⊢
  have hka := (((Kp.refl (fun _ => False) w).alloc (.cells #[.int .i64 tt, .int .i64 id, .int .i64 ki, .int .i64 se, .int .i64 sq, .int .i64 fr, .int .i64 mo, .slice a dl.length c] 40)).alloc (.cells #[.int .i64 tt, .int .i64 id, .int .i64 ki, .int .i64 se, .int .i64 sq, .int .i64 fr, .int .i64 mo, .slice a' dl.length c'] 82)).alloc (.cells #[.int .i64 id, .int .i64 ki, .int .i64 se, .int .i64 sq, .int .i64 fr, .int .i64 mo, .slice a dl.length c] 38)
  have cv1 := (h.no hka).str c
  have cv2 := (h'.no hka).str c'
  have HK := Lib.hid hka
  obtain ⟨S, hS⟩ : ∃ S, S = strOfNums dl := ⟨_, rfl⟩
  rw [← hS] at cv1 cv2
  generalize dl.length = n at cv1 cv2 HK ⊢
  clear h h' hka hS
  go_enter Try.func40, Try.ntmps40
  go_wp2_with fail
  go_ret
  exact ⟨rfl, HK.out⟩
/-- The records are the same. -/
def SameR (r1 r2 : List RecV) : Prop := r1.length = r2.length ∧ ∀ (k : Nat) (p q : RecV), r1[k]? = some p → r2[k]? = some q → p.d = q.d
set_option maxRecDepth 100000 in
set_option maxHeartbeats 4000000 in
theorem same_answer {w : World} (i e s n l : Int) (r1 r2 : List RecV) (a1 a2 : Option Addr) (c1 c2 : Nat) (hs : SameR r1 r2) (h1 : Row w a1 (r1.map RecV.val)) (h2 : Row w a2 (r2.map RecV.val)) (i1 : ∀ r ∈ r1, Row w r.a (bytes r.d)) (i2 : ∀ r ∈ r2, Row w r.a (bytes r.d)) (hm : r1.length ≤ 140737488355328) :
    Calls Try.prog 43 #[.agg #[.int .i64 i, .int .i64 e, .int .i64 s, .int .i64 n, .slice a1 r1.length c1, .int .i64 l], .agg #[.int .i64 i, .int .i64 e, .int .i64 s, .int .i64 n, .int .i64 l, .slice a2 r2.length c2]] w fun e w' => e = .returned (.bool true) ∧ Kp (fun _ => False) w w' := by
  obtain ⟨N, hN⟩ : ∃ N, N = r1.length := ⟨_, rfl⟩
  rw [← hs.1, ← hN]
  rw [← hN] at hm
  have hka := ((Kp.refl (fun _ => False) w).alloc (.cells #[.int .i64 i, .int .i64 e, .int .i64 s, .int .i64 n, .slice a1 N c1, .int .i64 l] 47)).alloc (.cells #[.int .i64 i, .int .i64 e, .int .i64 s, .int .i64 n, .int .i64 l, .slice a2 N c2] 56)
  have hX : ((w.alloc (.cells #[.int .i64 i, .int .i64 e, .int .i64 s, .int .i64 n, .slice a1 N c1, .int .i64 l] 47)).alloc (.cells #[.int .i64 i, .int .i64 e, .int .i64 s, .int .i64 n, .int .i64 l, .slice a2 N c2] 56)).heap[w.heap.size]? = some (.cells #[.int .i64 i, .int .i64 e, .int .i64 s, .int .i64 n, .slice a1 N c1, .int .i64 l] 47 (0, 0)) := heap_old _ (heap_new w _)
  have hY : ((w.alloc (.cells #[.int .i64 i, .int .i64 e, .int .i64 s, .int .i64 n, .slice a1 N c1, .int .i64 l] 47)).alloc (.cells #[.int .i64 i, .int .i64 e, .int .i64 s, .int .i64 n, .int .i64 l, .slice a2 N c2] 56)).heap[w.heap.size + 1]? = some (.cells #[.int .i64 i, .int .i64 e, .int .i64 s, .int .i64 n, .int .i64 l, .slice a2 N c2] 56 (0, 0)) := by
    have h := heap_new (w.alloc (.cells #[.int .i64 i, .int .i64 e, .int .i64 s, .int .i64 n, .slice a1 N c1, .int .i64 l] 47)) (.cells #[.int .i64 i, .int .i64 e, .int .i64 s, .int .i64 n, .int .i64 l, .slice a2 N c2] 56)
    simpa using h
  have HS := Lib.hid hs
  have HN := Lib.hid hN
  have HX := Lib.hid hX
  have HY := Lib.hid hY
  have HK := Lib.hid hka
  have H1 := Lib.hid (h1.no hka)
  have H2 := Lib.hid (h2.no hka)
  have I1 := Lib.hid (fun r h => (i1 r h).no hka)
  have I2 := Lib.hid (fun r h => (i2 r h).no hka)
  clear hs hN hX hY hka h1 h2 i1 i2
  go_enter Try.func43, Try.ntmps43
  go_upto_region 1 with fail
  generalize (w.alloc (.cells #[.int .i64 i, .int .i64 e, .int .i64 s, .int .i64 n, .slice a1 N c1, .int .i64 l] 47)).alloc (.cells #[.int .i64 i, .int .i64 e, .int .i64 s, .int .i64 n, .int .i64 l, .slice a2 N c2] 56) = w1 at HX HY HK H1 H2 I1 I2 ⊢
  generalize w.heap.size = X at HX HY ⊢
  have x0 := cell_of HX.out 0 (v := .int .i64 i) rfl
  have x1 := cell_of HX.out 1 (v := .int .i64 e) rfl
  have x2 := cell_of HX.out 2 (v := .int .i64 s) rfl
  have x3 := cell_of HX.out 3 (v := .int .i64 n) rfl
  have x4 := cell_of HX.out 4 (v := .slice a1 N c1) rfl
  have x5 := cell_of HX.out 5 (v := .int .i64 l) rfl
  have y0 := cell_of HY.out 0 (v := .int .i64 i) rfl
  have y1 := cell_of HY.out 1 (v := .int .i64 e) rfl
  have y2 := cell_of HY.out 2 (v := .int .i64 s) rfl
  have y3 := cell_of HY.out 3 (v := .int .i64 n) rfl
  have y4 := cell_of HY.out 4 (v := .int .i64 l) rfl
  have y5 := cell_of HY.out 5 (v := .slice a2 N c2) rfl
  go_quiet ((go_at_call 10; exact Calls.quiet_of_same (num_any _ _)))
  go_wp2_with fail
  have hd : Kp (fun _ => False) w1 (w1.drewN nq) := (Kp.refl _ _).drewN _
  clear x0 x1 x2 x3 x4 x5 y0 y1 y2 y3 y4 y5
  go_loopw [5] (fun q wr => ∃ k : Nat, q = .int .i64 k ∧ k ≤ N ∧ Kp (fun _ => False) w1 wr) (fun q _ => N - (intOf q).toNat)
  case atStart => exact ⟨0, rfl, Nat.zero_le _, hd⟩
  case round =>
    clear hd
    obtain ⟨k, rfl, hk, hK⟩ := hrel
    have HKW := Lib.hid hK
    have hx := hK.heap HX.out (fun h => h)
    have hy := hK.heap HY.out (fun h => h)
    have x4 := cell_of hx 4 (v := .slice a1 N c1) rfl
    have y5 := cell_of hy 5 (v := .slice a2 N c2) rfl
    clear hx hy hK
    by_cases hlt : k < N
    · obtain ⟨p, hp⟩ : ∃ p, p = r1[k]'(by rw [← HN.out]; exact hlt) := ⟨_, rfl⟩
      obtain ⟨q, hq⟩ : ∃ q, q = r2[k]'(by rw [← HS.out.1, ← HN.out]; exact hlt) := ⟨_, rfl⟩
      have hp1 : r1[k]? = some p := by rw [List.getElem?_eq_getElem (by rw [← HN.out]; exact hlt), hp]
      have hq1 : r2[k]? = some q := by rw [List.getElem?_eq_getElem (by rw [← HS.out.1, ← HN.out]; exact hlt), hq]
      have hpq := HS.out.2 k p q hp1 hq1
      have hpm : p ∈ r1 := List.mem_of_getElem? hp1
      have hqm : q ∈ r2 := List.mem_of_getElem? hq1
      obtain ⟨b1, o1, rfl, d1⟩ := (H1.out.no HKW.out) k p.val (by rw [List.getElem?_map, hp1]; rfl)
      obtain ⟨b2, o2, rfl, d2⟩ := (H2.out.no HKW.out) k q.val (by rw [List.getElem?_map, hq1]; rfl)
      obtain ⟨pa, pd, pc⟩ := p
      obtain ⟨qa, qd, qc⟩ := q
      have hpq : pd = qd := hpq
      subst hpq
      have d1' : wr.cell? ⟨b1, o1 + k, none⟩ = some (.slice pa pd.length pc) := d1
      have d2' : wr.cell? ⟨b2, o2 + k, none⟩ = some (.slice qa pd.length qc) := d2
      have cv1 : ∀ n, (convert 30 9 (.slice pa pd.length pc)).run Try.prog (wr.drewN n) = .ok (.string (strOfNums pd)) (wr.drewN n) := fun n => ((I1.out _ hpm).no (HKW.out.drewN n)).str pc
      have cv2 : ∀ n, (convert 30 9 (.slice qa pd.length qc)).run Try.prog (wr.drewN n) = .ok (.string (strOfNums pd)) (wr.drewN n) := fun n => ((I2.out _ hqm).no (HKW.out.drewN n)).str qc
      obtain ⟨S, hS⟩ : ∃ S, S = strOfNums pd := ⟨_, rfl⟩
      rw [← hS] at cv1 cv2
      have hkI : (k : Int) < (N : Int) := by omega
      have hk0 : (0 : Int) ≤ (k : Int) := by omega
      generalize pd.length = m at d1' d2' cv1 cv2
      clear hp hq hp1 hq1 hpm hqm d1 d2 hS
      go_wp2_with fail
      go_quiet (fail)
      go_wp2_with fail
      go_roundw
      case rel => exact ⟨k + 1, by go_num, by omega, by first | exact HKW.out.drewN _ | exact HKW.out.drew | exact HKW.out⟩
      case measure => simp [intOf]; omega
    · obtain rfl : k = N := by omega
      go_wp2_with fail
      go_ret
      exact ⟨rfl, HK.out.trans HKW.out⟩
end Go.Proofs.Ytjhefbkigmamfaa
