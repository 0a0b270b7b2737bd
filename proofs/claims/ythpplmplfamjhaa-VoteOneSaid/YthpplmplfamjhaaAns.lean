/-
  UpToDate and Answer, the program's and the reference's, and the law's two turns, each walked once: for every number.
-/
import Derived.Test.YthpplmplfamjhaaWon
namespace Go.Proofs.Ythpplmplfamjhaa
open Go.RowKit
set_option linter.unusedVariables false

/-- Whether a log is at least as new. -/
def upTo (i l oi ol : Int) : Bool := decide (ol < l ∨ l = ol ∧ oi ≤ i)
theorem up_prog (i l oi ol : Int) (w : World) : Calls Try.prog 13 #[.int .i64 i, .int .i64 l, .int .i64 oi, .int .i64 ol] w fun e w' => e = .returned (.bool (upTo i l oi ol)) ∧ w = w' := by
  by_cases h1 : ol < l
  · have e : upTo i l oi ol = true := by unfold upTo; simp; omega
    rw [e]
    clear e
    go_enter Try.func13, Try.ntmps13
    go_wp2
    go_ret
    exact ⟨rfl, rfl⟩
  · by_cases h2 : l = ol
    · subst h2
      by_cases h3 : oi ≤ i
      · have e : upTo i l oi l = true := by unfold upTo; simp; omega
        rw [e]
        clear e
        go_enter Try.func13, Try.ntmps13
        go_wp2
        go_ret
        exact ⟨rfl, rfl⟩
      · have e : upTo i l oi l = false := by unfold upTo; simp; omega
        rw [e]
        clear e
        have hd : decide (oi ≤ i) = false := by simp; omega
        go_enter Try.func13, Try.ntmps13
        go_wp2
        go_ret
        exact ⟨rfl, rfl⟩
    · have e : upTo i l oi ol = false := by unfold upTo; simp; omega
      rw [e]
      clear e
      have hd : (l == ol) = false := by simp; omega
      go_enter Try.func13, Try.ntmps13
      go_wp2
      go_ret
      exact ⟨rfl, rfl⟩
theorem up_ref (i l oi ol : Int) (w : World) : Calls Try.prog 14 #[.int .i64 i, .int .i64 l, .int .i64 oi, .int .i64 ol] w fun e w' => e = .returned (.bool (upTo i l oi ol)) ∧ w = w' := by
  by_cases h2 : l = ol
  · subst h2
    have e : upTo i l oi l = decide (oi ≤ i) := by unfold upTo; rw [decide_eq_decide]; omega
    rw [e]
    clear e
    go_enter Try.func14, Try.ntmps14
    go_wp2
    go_ret
    exact ⟨rfl, rfl⟩
  · have e : upTo i l oi ol = decide (ol < l) := by unfold upTo; rw [decide_eq_decide]; omega
    rw [e]
    clear e
    have hd : (l == ol) = false := by simp; omega
    have hd' : (l != ol) = true := by simp; omega
    go_enter Try.func14, Try.ntmps14
    go_wp2
    go_ret
    exact ⟨rfl, rfl⟩

/-- A server, and an ask, as values. -/
def vMe (t f i l : Int) (fr : Bool) : Value := .agg #[.int .i64 t, .int .i64 f, .int .i64 i, .int .i64 l, .bool fr]
def vAsk (t f i l : Int) : Value := .agg #[.int .i64 t, .int .i64 f, .int .i64 i, .int .i64 l]
structure Ans where
  term : Int
  vote : Int
  yes : Bool
  silent : Bool
/-- P1003. -/
def ans (t f i l : Int) (fr : Bool) (at_ from_ ai al : Int) : Ans :=
  if fr = true ∧ t < at_ then ⟨t, f, false, true⟩
  else if at_ < t then ⟨t, f, false, false⟩
  else
    let f' := if t < at_ then -1 else f
    if (f' = -1 ∨ f' = from_) ∧ upTo ai al i l = true then ⟨at_, from_, true, false⟩ else ⟨at_, f', false, false⟩
def vAns (a : Ans) (i l : Int) (fr : Bool) : Value := .tuple #[vMe a.term a.vote i l fr, .bool a.yes, .bool a.silent]

/-- What an answer leaves in memory: the two boxes and the result's. -/
def ansW (w : World) (a : Ans) (i l : Int) (fr : Bool) (at_ from_ ai al : Int) (tm ta : TypeId) : World :=
  ((w.alloc (.cells #[.int .i64 a.term, .int .i64 a.vote, .int .i64 i, .int .i64 l, .bool fr] tm)).alloc (.cells #[.int .i64 at_, .int .i64 from_, .int .i64 ai, .int .i64 al] ta)).alloc
    (.cells #[.int .i64 a.term, .int .i64 a.vote, .int .i64 i, .int .i64 l, .bool fr] tm)
theorem ansW_kp (w : World) (a : Ans) (i l : Int) (fr : Bool) (at_ from_ ai al : Int) (tm ta : TypeId) : Kp (fun _ => False) w (ansW w a i l fr at_ from_ ai al tm ta) := (((Kp.refl _ _).alloc _).alloc _).alloc _
theorem me_any (t f i l : Int) (fr : Bool) (w : World) : Calls Try.prog 10 #[vMe t f i l fr] w fun e w' => e = .returned (vMe t f i l fr) ∧ (w.alloc (.cells #[.int .i64 t, .int .i64 f, .int .i64 i, .int .i64 l, .bool fr] 23)).alloc (.cells #[.int .i64 t, .int .i64 f, .int .i64 i, .int .i64 l, .bool fr] 26) = w' := by
  unfold vMe
  go_enter Try.func10, Try.ntmps10
  go_wp2
  exact bodyPost_ret (v := .agg #[.int .i64 t, .int .i64 f, .int .i64 i, .int .i64 l, .bool fr]) (by simp [results, Try.results10, go_sem]) rfl ⟨rfl, rfl⟩
theorem ask_any (t f i l : Int) (w : World) : Calls Try.prog 11 #[vAsk t f i l] w fun e w' => e = .returned (vAsk t f i l) ∧ (w.alloc (.cells #[.int .i64 t, .int .i64 f, .int .i64 i, .int .i64 l] 25)).alloc (.cells #[.int .i64 t, .int .i64 f, .int .i64 i, .int .i64 l] 30) = w' := by
  unfold vAsk
  go_enter Try.func11, Try.ntmps11
  go_wp2
  exact bodyPost_ret (v := .agg #[.int .i64 t, .int .i64 f, .int .i64 i, .int .i64 l]) (by simp [results, Try.results11, go_sem]) rfl ⟨rfl, rfl⟩

set_option maxHeartbeats 1000000 in
theorem answer_prog (t f i l : Int) (fr : Bool) (at_ from_ ai al : Int) (w : World) :
    Calls Try.prog 9 #[vMe t f i l fr, vAsk at_ from_ ai al] w fun e w' => e = .returned (vAns (ans t f i l fr at_ from_ ai al) i l fr) ∧ ansW w (ans t f i l fr at_ from_ ai al) i l fr at_ from_ ai al 26 30 = w' := by
  unfold vMe vAsk vAns vMe ansW
  by_cases hgt : t < at_
  · cases fr with
    | true =>
      rw [show ans t f i l true at_ from_ ai al = ⟨t, f, false, true⟩ from by unfold ans; rw [if_pos ⟨rfl, hgt⟩]]
      go_enter Try.func9, Try.ntmps9
      go_wp2_with (go_at_call 13; refine (up_prog _ _ _ _ _).mono ?_; rintro e w' ⟨rfl, rfl⟩)
      exact bodyPost_ret (v := .tuple #[.agg #[.int .i64 t, .int .i64 f, .int .i64 i, .int .i64 l, .bool true], .bool false, .bool true]) (by simp [results, Try.results9, go_sem]) rfl ⟨rfl, rfl⟩
    | false =>
      have hlt : ¬ at_ < t := by omega
      by_cases hU : upTo ai al i l = true
      · rw [show ans t f i l false at_ from_ ai al = ⟨at_, from_, true, false⟩ from by unfold ans; simp [hgt, hlt, hU]]
        go_enter Try.func9, Try.ntmps9
        go_wp2_with (go_at_call 13; refine (up_prog _ _ _ _ _).mono ?_; rintro e w' ⟨rfl, rfl⟩)
        exact bodyPost_ret (v := .tuple #[.agg #[.int .i64 at_, .int .i64 from_, .int .i64 i, .int .i64 l, .bool false], .bool true, .bool false]) (by simp [results, Try.results9, go_sem]) rfl ⟨rfl, rfl⟩
      · have hU' : upTo ai al i l = false := by simpa using hU
        clear hU
        rw [show ans t f i l false at_ from_ ai al = ⟨at_, -1, false, false⟩ from by unfold ans; simp [hgt, hlt, hU']]
        go_enter Try.func9, Try.ntmps9
        go_wp2_with (go_at_call 13; refine (up_prog _ _ _ _ _).mono ?_; rintro e w' ⟨rfl, rfl⟩)
        exact bodyPost_ret (v := .tuple #[.agg #[.int .i64 at_, .int .i64 (-1), .int .i64 i, .int .i64 l, .bool false], .bool false, .bool false]) (by simp [results, Try.results9, go_sem]) rfl ⟨rfl, rfl⟩
  · by_cases hlt : at_ < t
    · rw [show ans t f i l fr at_ from_ ai al = ⟨t, f, false, false⟩ from by unfold ans; simp [hgt, hlt]]
      have hd : decide (t < at_) = false := by simp; omega
      cases fr
      all_goals
        go_enter Try.func9, Try.ntmps9
        go_wp2_with (go_at_call 13; refine (up_prog _ _ _ _ _).mono ?_; rintro e w' ⟨rfl, rfl⟩)
        exact bodyPost_ret (v := .tuple #[.agg #[.int .i64 t, .int .i64 f, .int .i64 i, .int .i64 l, .bool _], .bool false, .bool false]) (by simp [results, Try.results9, go_sem]) rfl ⟨rfl, rfl⟩
    · obtain rfl : at_ = t := by omega
      clear hgt hlt
      by_cases hv : f = -1
      · subst hv
        by_cases hU : upTo ai al i l = true
        · rw [show ans at_ (-1) i l fr at_ from_ ai al = ⟨at_, from_, true, false⟩ from by unfold ans; simp [hU]]
          cases fr
          all_goals
            go_enter Try.func9, Try.ntmps9
            go_wp2_with (go_at_call 13; refine (up_prog _ _ _ _ _).mono ?_; rintro e w' ⟨rfl, rfl⟩)
            exact bodyPost_ret (v := .tuple #[.agg #[.int .i64 at_, .int .i64 from_, .int .i64 i, .int .i64 l, .bool _], .bool true, .bool false]) (by simp [results, Try.results9, go_sem]) rfl ⟨rfl, rfl⟩
        · have hU' : upTo ai al i l = false := by simpa using hU
          clear hU
          rw [show ans at_ (-1) i l fr at_ from_ ai al = ⟨at_, -1, false, false⟩ from by unfold ans; simp [hU']]
          cases fr
          all_goals
            go_enter Try.func9, Try.ntmps9
            go_wp2_with (go_at_call 13; refine (up_prog _ _ _ _ _).mono ?_; rintro e w' ⟨rfl, rfl⟩)
            exact bodyPost_ret (v := .tuple #[.agg #[.int .i64 at_, .int .i64 (-1), .int .i64 i, .int .i64 l, .bool _], .bool false, .bool false]) (by simp [results, Try.results9, go_sem]) rfl ⟨rfl, rfl⟩
      · have hd : (f == -1) = false := by simp; omega
        by_cases hf : f = from_
        · subst hf
          by_cases hU : upTo ai al i l = true
          · rw [show ans at_ f i l fr at_ f ai al = ⟨at_, f, true, false⟩ from by unfold ans; simp [hU]]
            clear hv
            cases fr
            all_goals
              go_enter Try.func9, Try.ntmps9
              go_wp2_with (go_at_call 13; refine (up_prog _ _ _ _ _).mono ?_; rintro e w' ⟨rfl, rfl⟩)
              exact bodyPost_ret (v := .tuple #[.agg #[.int .i64 at_, .int .i64 f, .int .i64 i, .int .i64 l, .bool _], .bool true, .bool false]) (by simp [results, Try.results9, go_sem]) rfl ⟨rfl, rfl⟩
          · have hU' : upTo ai al i l = false := by simpa using hU
            clear hU
            rw [show ans at_ f i l fr at_ f ai al = ⟨at_, f, false, false⟩ from by unfold ans; simp [hU']]
            clear hv
            cases fr
            all_goals
              go_enter Try.func9, Try.ntmps9
              go_wp2_with (go_at_call 13; refine (up_prog _ _ _ _ _).mono ?_; rintro e w' ⟨rfl, rfl⟩)
              exact bodyPost_ret (v := .tuple #[.agg #[.int .i64 at_, .int .i64 f, .int .i64 i, .int .i64 l, .bool _], .bool false, .bool false]) (by simp [results, Try.results9, go_sem]) rfl ⟨rfl, rfl⟩
        · rw [show ans at_ f i l fr at_ from_ ai al = ⟨at_, f, false, false⟩ from by unfold ans; simp [hf, hv]]
          have hd2 : (f == from_) = false := by simp [hf]
          clear hv hf
          cases fr
          all_goals
            go_enter Try.func9, Try.ntmps9
            go_wp2_with (go_at_call 13; refine (up_prog _ _ _ _ _).mono ?_; rintro e w' ⟨rfl, rfl⟩)
            exact bodyPost_ret (v := .tuple #[.agg #[.int .i64 at_, .int .i64 f, .int .i64 i, .int .i64 l, .bool _], .bool false, .bool false]) (by simp [results, Try.results9, go_sem]) rfl ⟨rfl, rfl⟩

set_option maxHeartbeats 1000000 in
theorem answer_ref (t f i l : Int) (fr : Bool) (at_ from_ ai al : Int) (w : World) :
    Calls Try.prog 12 #[vMe t f i l fr, vAsk at_ from_ ai al] w fun e w' => e = .returned (vAns (ans t f i l fr at_ from_ ai al) i l fr) ∧ ansW w (ans t f i l fr at_ from_ ai al) i l fr at_ from_ ai al 23 25 = w' := by
  unfold vMe vAsk vAns vMe ansW
  by_cases hgt : t < at_
  · cases fr with
    | true =>
      rw [show ans t f i l true at_ from_ ai al = ⟨t, f, false, true⟩ from by unfold ans; rw [if_pos ⟨rfl, hgt⟩]]
      go_enter Try.func12, Try.ntmps12
      go_wp2_with (go_at_call 14; refine (up_ref _ _ _ _ _).mono ?_; rintro e w' ⟨rfl, rfl⟩)
      exact bodyPost_ret (v := .tuple #[.agg #[.int .i64 t, .int .i64 f, .int .i64 i, .int .i64 l, .bool true], .bool false, .bool true]) (by simp [results, Try.results12, go_sem]) rfl ⟨rfl, rfl⟩
    | false =>
      have hlt : ¬ at_ < t := by omega
      by_cases hU : upTo ai al i l = true
      · rw [show ans t f i l false at_ from_ ai al = ⟨at_, from_, true, false⟩ from by unfold ans; simp [hgt, hlt, hU]]
        go_enter Try.func12, Try.ntmps12
        go_wp2_with (go_at_call 14; refine (up_ref _ _ _ _ _).mono ?_; rintro e w' ⟨rfl, rfl⟩)
        exact bodyPost_ret (v := .tuple #[.agg #[.int .i64 at_, .int .i64 from_, .int .i64 i, .int .i64 l, .bool false], .bool true, .bool false]) (by simp [results, Try.results12, go_sem]) rfl ⟨rfl, rfl⟩
      · have hU' : upTo ai al i l = false := by simpa using hU
        clear hU
        rw [show ans t f i l false at_ from_ ai al = ⟨at_, -1, false, false⟩ from by unfold ans; simp [hgt, hlt, hU']]
        go_enter Try.func12, Try.ntmps12
        go_wp2_with (go_at_call 14; refine (up_ref _ _ _ _ _).mono ?_; rintro e w' ⟨rfl, rfl⟩)
        exact bodyPost_ret (v := .tuple #[.agg #[.int .i64 at_, .int .i64 (-1), .int .i64 i, .int .i64 l, .bool false], .bool false, .bool false]) (by simp [results, Try.results12, go_sem]) rfl ⟨rfl, rfl⟩
  · by_cases hlt : at_ < t
    · rw [show ans t f i l fr at_ from_ ai al = ⟨t, f, false, false⟩ from by unfold ans; simp [hgt, hlt]]
      have hd : decide (t < at_) = false := by simp; omega
      cases fr
      all_goals
        go_enter Try.func12, Try.ntmps12
        go_wp2_with (go_at_call 14; refine (up_ref _ _ _ _ _).mono ?_; rintro e w' ⟨rfl, rfl⟩)
        exact bodyPost_ret (v := .tuple #[.agg #[.int .i64 t, .int .i64 f, .int .i64 i, .int .i64 l, .bool _], .bool false, .bool false]) (by simp [results, Try.results12, go_sem]) rfl ⟨rfl, rfl⟩
    · obtain rfl : at_ = t := by omega
      clear hgt hlt
      by_cases hv : f = -1
      · subst hv
        by_cases hU : upTo ai al i l = true
        · rw [show ans at_ (-1) i l fr at_ from_ ai al = ⟨at_, from_, true, false⟩ from by unfold ans; simp [hU]]
          cases fr
          all_goals
            go_enter Try.func12, Try.ntmps12
            go_wp2_with (go_at_call 14; refine (up_ref _ _ _ _ _).mono ?_; rintro e w' ⟨rfl, rfl⟩)
            exact bodyPost_ret (v := .tuple #[.agg #[.int .i64 at_, .int .i64 from_, .int .i64 i, .int .i64 l, .bool _], .bool true, .bool false]) (by simp [results, Try.results12, go_sem]) rfl ⟨rfl, rfl⟩
        · have hU' : upTo ai al i l = false := by simpa using hU
          clear hU
          rw [show ans at_ (-1) i l fr at_ from_ ai al = ⟨at_, -1, false, false⟩ from by unfold ans; simp [hU']]
          cases fr
          all_goals
            go_enter Try.func12, Try.ntmps12
            go_wp2_with (go_at_call 14; refine (up_ref _ _ _ _ _).mono ?_; rintro e w' ⟨rfl, rfl⟩)
            exact bodyPost_ret (v := .tuple #[.agg #[.int .i64 at_, .int .i64 (-1), .int .i64 i, .int .i64 l, .bool _], .bool false, .bool false]) (by simp [results, Try.results12, go_sem]) rfl ⟨rfl, rfl⟩
      · have hd : (f == -1) = false := by simp; omega
        by_cases hf : f = from_
        · subst hf
          by_cases hU : upTo ai al i l = true
          · rw [show ans at_ f i l fr at_ f ai al = ⟨at_, f, true, false⟩ from by unfold ans; simp [hU]]
            clear hv
            cases fr
            all_goals
              go_enter Try.func12, Try.ntmps12
              go_wp2_with (go_at_call 14; refine (up_ref _ _ _ _ _).mono ?_; rintro e w' ⟨rfl, rfl⟩)
              exact bodyPost_ret (v := .tuple #[.agg #[.int .i64 at_, .int .i64 f, .int .i64 i, .int .i64 l, .bool _], .bool true, .bool false]) (by simp [results, Try.results12, go_sem]) rfl ⟨rfl, rfl⟩
          · have hU' : upTo ai al i l = false := by simpa using hU
            clear hU
            rw [show ans at_ f i l fr at_ f ai al = ⟨at_, f, false, false⟩ from by unfold ans; simp [hU']]
            clear hv
            cases fr
            all_goals
              go_enter Try.func12, Try.ntmps12
              go_wp2_with (go_at_call 14; refine (up_ref _ _ _ _ _).mono ?_; rintro e w' ⟨rfl, rfl⟩)
              exact bodyPost_ret (v := .tuple #[.agg #[.int .i64 at_, .int .i64 f, .int .i64 i, .int .i64 l, .bool _], .bool false, .bool false]) (by simp [results, Try.results12, go_sem]) rfl ⟨rfl, rfl⟩
        · rw [show ans at_ f i l fr at_ from_ ai al = ⟨at_, f, false, false⟩ from by unfold ans; simp [hf, hv]]
          have hd2 : (f == from_) = false := by simp [hf]
          clear hv hf
          cases fr
          all_goals
            go_enter Try.func12, Try.ntmps12
            go_wp2_with (go_at_call 14; refine (up_ref _ _ _ _ _).mono ?_; rintro e w' ⟨rfl, rfl⟩)
            exact bodyPost_ret (v := .tuple #[.agg #[.int .i64 at_, .int .i64 f, .int .i64 i, .int .i64 l, .bool _], .bool false, .bool false]) (by simp [results, Try.results12, go_sem]) rfl ⟨rfl, rfl⟩
end Go.Proofs.Ythpplmplfamjhaa
