/-
  No book, and one that nobody made: each method, walked once. No condition.
-/
import Derived.Test.YtdkgbjbfmempdaaKn
namespace Go.Proofs.Ytdkgbjbfmempdaa
open Go.ChangeShapes Go.WideShapes Go.ChangeAt Go.RowKit Go.Deep
set_option linter.unusedVariables false

/-- p is no book that was made. -/
def NB (w : World) (p : Value) : Prop := ∀ w', Kp (fun _ => False) w w' → Calls Try.prog 20 #[p] w' fun r w2 => r = .returned (.bool true) ∧ w2 = w'
theorem NB.nil (w : World) : NB w (.pointer none) := fun w' _ => none_nil w'
theorem NB.new {w : World} {b : Nat} {cs : Array Value} (hb : w.heap[b]? = some (.cells cs 51 (0, 0))) (h1 : cs[1]? = some (.bool false)) : NB w (.pointer (some ⟨b, 0, none⟩)) :=
  fun w' k => none_no (k.heap hb (fun h => h)) h1
theorem NB.no {w w' : World} {p : Value} (h : NB w p) (k : Kp (fun _ => False) w w') : NB w' p := fun w2 k2 => h w2 (k.andThen k2 (fun _ _ h => h))

theorem ask_nb {w : World} {p : Value} (h : NB w p) (id ix rd : Int) : Calls Try.prog 11 #[p, .int .i64 id, .int .i64 ix, .int .i64 rd] w fun e w' => e = .returned (.int .i64 1) ∧ w' = w := by
  have H := Lib.hid h
  clear h
  go_enter Try.func11, Try.ntmps11
  go_wp2_with (go_at_call 20; refine (H.out _ (Kp.refl _ _)).mono ?_; rintro e w1 ⟨rfl, rfl⟩)
  go_ret
  exact ⟨rfl, rfl⟩
theorem heard_nb {w : World} {p : Value} (h : NB w p) (f r : Int) : Calls Try.prog 12 #[p, .int .i64 f, .int .i64 r] w fun e w' => e = .returned (.int .i64 1) ∧ w' = w := by
  have H := Lib.hid h
  clear h
  go_enter Try.func12, Try.ntmps12
  go_wp2_with (go_at_call 20; refine (H.out _ (Kp.refl _ _)).mono ?_; rintro e w1 ⟨rfl, rfl⟩)
  go_ret
  exact ⟨rfl, rfl⟩
theorem waiting_nb {w : World} {p : Value} (h : NB w p) : Calls Try.prog 14 #[p] w fun e w' => e = .returned (.slice none 0 0) ∧ w' = w := by
  have H := Lib.hid h
  clear h
  go_enter Try.func14, Try.ntmps14
  go_wp2_with (go_at_call 20; refine (H.out _ (Kp.refl _ _)).mono ?_; rintro e w1 ⟨rfl, rfl⟩)
  go_ret
  exact ⟨rfl, rfl⟩
theorem clear_nb {w : World} {p : Value} (h : NB w p) : Calls Try.prog 17 #[p] w fun e w' => e = .returned (.slice none 0 0) ∧ w' = w := by
  have H := Lib.hid h
  have HW := Lib.hid (waiting_nb h)
  clear h
  go_enter Try.func17, Try.ntmps17
  go_wp2_with (first | (go_at_call 14; refine HW.out.mono ?_; rintro e w1 ⟨rfl, rfl⟩) | (go_at_call 20; refine (H.out _ (Kp.refl _ _)).mono ?_; rintro e w1 ⟨rfl, rfl⟩))
  go_ret
  exact ⟨rfl, rfl⟩
theorem ready_nb {w : World} {q : Option Addr} (h : NB w (.pointer q)) (x : Option Addr) (n c : Nat) : Calls Try.prog 13 #[.pointer q, .slice x n c] w fun e w' => e = .returned (.slice none 0 0) ∧ Kp (fun _ => False) w w' := by
  have H := Lib.hid h
  clear h
  go_enter Try.func13, Try.ntmps13
  go_wp2_with (go_at_call 20; refine (H.out _ (((Kp.refl _ _).alloc _).alloc _)).mono ?_; rintro e w1 ⟨rfl, rfl⟩)
  go_ret
  exact ⟨rfl, ((Kp.refl _ _).alloc _).alloc _⟩

end Go.Proofs.Ytdkgbjbfmempdaa
