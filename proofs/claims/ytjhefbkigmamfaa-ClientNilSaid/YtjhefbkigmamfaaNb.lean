/-
  No client, and one that nobody made: each method, walked once. No condition.
-/
import Derived.Test.YtjhefbkigmamfaaDn
namespace Go.Proofs.Ytjhefbkigmamfaa
open Go.ChangeShapes Go.WideShapes Go.ChangeAt Go.RowKit
set_option linter.unusedVariables false

/-- p is no client that was made. -/
def NB (w : World) (p : Value) : Prop := ∀ w', Kp (fun _ => False) w w' → Calls Try.prog 27 #[p] w' fun r w2 => r = .returned (.bool true) ∧ w2 = w'
theorem NB.nil (w : World) : NB w (.pointer none) := fun w' _ => none_nil w'
theorem NB.new {w : World} {b : Nat} {cs : Array Value} (hb : w.heap[b]? = some (.cells cs 65 (0, 0))) (h1 : cs[2]? = some (.int .i64 0)) : NB w (.pointer (some ⟨b, 0, none⟩)) :=
  fun w' k => none_of (cell_of (k.heap hb (fun h => h)) 2 h1)
theorem NB.no {w w' : World} {p : Value} (h : NB w p) (k : Kp (fun _ => False) w w') : NB w' p := fun w2 k2 => h w2 (k.andThen k2 (fun _ _ h => h))

theorem tries_nb {w : World} {p : Value} (h : NB w p) : Calls Try.prog 16 #[p] w fun e w' => e = .returned (.int .i64 0) ∧ w' = w := by
  have H := Lib.hid h
  clear h
  go_enter Try.func16, Try.ntmps16
  go_wp2_with (go_at_call 27; refine (H.out _ (Kp.refl _ _)).mono ?_; rintro e w1 ⟨rfl, rfl⟩)
  go_ret
  exact ⟨rfl, rfl⟩
theorem session_nb {w : World} {p : Value} (h : NB w p) : Calls Try.prog 23 #[p] w fun e w' => e = .returned (.int .i64 0) ∧ w' = w := by
  have H := Lib.hid h
  clear h
  go_enter Try.func23, Try.ntmps23
  go_wp2_with (go_at_call 27; refine (H.out _ (Kp.refl _ _)).mono ?_; rintro e w1 ⟨rfl, rfl⟩)
  go_ret
  exact ⟨rfl, rfl⟩
theorem seq_nb {w : World} {p : Value} (h : NB w p) : Calls Try.prog 24 #[p] w fun e w' => e = .returned (.int .i64 0) ∧ w' = w := by
  have H := Lib.hid h
  clear h
  go_enter Try.func24, Try.ntmps24
  go_wp2_with (go_at_call 27; refine (H.out _ (Kp.refl _ _)).mono ?_; rintro e w1 ⟨rfl, rfl⟩)
  go_ret
  exact ⟨rfl, rfl⟩
theorem busy_nb {w : World} {p : Value} (h : NB w p) : Calls Try.prog 17 #[p] w fun e w' => e = .returned (.bool false) ∧ w' = w := by
  have H := Lib.hid h
  clear h
  go_enter Try.func17, Try.ntmps17
  go_wp2_with (go_at_call 27; refine (H.out _ (Kp.refl _ _)).mono ?_; rintro e w1 ⟨rfl, rfl⟩)
  go_ret
  exact ⟨rfl, rfl⟩
theorem calls_nb {w : World} {p : Value} (h : NB w p) : Calls Try.prog 14 #[p] w fun e w' => e = .returned (.slice none 0 0) ∧ w' = w := by
  have H := Lib.hid h
  clear h
  go_enter Try.func14, Try.ntmps14
  go_wp2_with (go_at_call 27; refine (H.out _ (Kp.refl _ _)).mono ?_; rintro e w1 ⟨rfl, rfl⟩)
  go_ret
  exact ⟨rfl, rfl⟩
theorem tick_nb {w : World} {p : Value} (h : NB w p) : Calls Try.prog 13 #[p] w fun e w' => e = .returned (.int .i64 1) ∧ w' = w := by
  have H := Lib.hid h
  clear h
  go_enter Try.func13, Try.ntmps13
  go_wp2_with (go_at_call 27; refine (H.out _ (Kp.refl _ _)).mono ?_; rintro e w1 ⟨rfl, rfl⟩)
  go_ret
  exact ⟨rfl, rfl⟩
set_option maxRecDepth 100000 in
set_option maxHeartbeats 4000000 in
theorem do_nb {w : World} {p : Value} (h : NB w p) (k f m : Int) (a : Option Addr) (n c : Nat) : Calls Try.prog 12 #[p, .agg #[.int .i64 k, .int .i64 f, .int .i64 m, .slice a n c]] w fun e w' => e = .returned (.int .i64 1) ∧ Kp (fun _ => False) w w' := by
  have H := Lib.hid h
  clear h
  go_enter Try.func12, Try.ntmps12
  go_wp2_with (go_at_call 27; refine (H.out _ ((Kp.refl _ _).alloc _)).mono ?_; rintro e w1 ⟨rfl, rfl⟩)
  go_ret
  exact ⟨rfl, (Kp.refl _ _).alloc _⟩
set_option maxRecDepth 100000 in
set_option maxHeartbeats 4000000 in
theorem heard_nb {w : World} {p : Value} (h : NB w p) (i e s n : Int) (a : Option Addr) (k c : Nat) (l : Int) : Calls Try.prog 15 #[p, .agg #[.int .i64 i, .int .i64 e, .int .i64 s, .int .i64 n, .slice a k c, .int .i64 l]] w fun e w' => e = .returned (.int .i64 1) ∧ Kp (fun _ => False) w w' := by
  have H := Lib.hid h
  clear h
  go_enter Try.func15, Try.ntmps15
  go_wp2_with (go_at_call 27; refine (H.out _ ((Kp.refl _ _).alloc _)).mono ?_; rintro e w1 ⟨rfl, rfl⟩)
  go_ret
  exact ⟨rfl, (Kp.refl _ _).alloc _⟩
set_option maxRecDepth 100000 in
set_option maxHeartbeats 4000000 in
theorem done_nb {w : World} {p : Value} (h : NB w p) : Calls Try.prog 18 #[p] w fun e w' => e = .returned (.tuple #[.agg #[.int .i64 0, .int .i64 0, .int .i64 0, .slice none 0 0], .agg #[.int .i64 0, .int .i64 0, .int .i64 0, .int .i64 0, .slice none 0 0, .int .i64 0], .bool false]) ∧ Kp (fun _ => False) w w' := by
  have hka : Kp (fun _ => False) w ((w.alloc (.cells #[.int .i64 0, .int .i64 0, .int .i64 0, .slice none 0 0] 32)).alloc (.cells #[.int .i64 0, .int .i64 0, .int .i64 0, .int .i64 0, .slice none 0 0, .int .i64 0] 47)) := ((Kp.refl _ _).alloc _).alloc _
  have h1 : ((w.alloc (.cells #[.int .i64 0, .int .i64 0, .int .i64 0, .slice none 0 0] 32)).alloc (.cells #[.int .i64 0, .int .i64 0, .int .i64 0, .int .i64 0, .slice none 0 0, .int .i64 0] 47)).heap[w.heap.size]? = some (.cells #[.int .i64 0, .int .i64 0, .int .i64 0, .slice none 0 0] 32 (0, 0)) := heap_old _ (heap_new w _)
  have h2 : ((w.alloc (.cells #[.int .i64 0, .int .i64 0, .int .i64 0, .slice none 0 0] 32)).alloc (.cells #[.int .i64 0, .int .i64 0, .int .i64 0, .int .i64 0, .slice none 0 0, .int .i64 0] 47)).heap[w.heap.size + 1]? = some (.cells #[.int .i64 0, .int .i64 0, .int .i64 0, .int .i64 0, .slice none 0 0, .int .i64 0] 47 (0, 0)) := by
    have h := heap_new (w.alloc (.cells #[.int .i64 0, .int .i64 0, .int .i64 0, .slice none 0 0] 32)) (.cells #[.int .i64 0, .int .i64 0, .int .i64 0, .int .i64 0, .slice none 0 0, .int .i64 0] 47)
    simpa using h
  have H := Lib.hid h
  have H1 := Lib.hid h1
  have H2 := Lib.hid h2
  have HK := Lib.hid hka
  clear h h1 h2 hka
  go_enter Try.func18, Try.ntmps18
  go_upto_region 1 with fail
  generalize ((w.alloc (.cells #[.int .i64 0, .int .i64 0, .int .i64 0, .slice none 0 0] 32)).alloc (.cells #[.int .i64 0, .int .i64 0, .int .i64 0, .int .i64 0, .slice none 0 0, .int .i64 0] 47)) = w1 at H1 H2 HK ⊢
  go_wp2_with (first | (go_at_call 27; refine (H.out _ HK.out).mono ?_; rintro e w2 ⟨rfl, rfl⟩) | (refine wpList_store_row rfl 32 _ _ rfl w.heap.size _ rfl rfl 32 _ H1.out (by kernel_rfl) rfl (by simp [Value.oneCell']) ?_) | (refine wpList_store_row rfl 47 _ _ rfl (w.heap.size + 1) _ rfl rfl 47 _ ((setRow_other _ _ _ _ (by omega)).trans H2.out) (by kernel_rfl) rfl (by simp [Value.oneCell']) ?_))
  have a1 := setRow_heap _ _ _ #[.int .i64 0, .int .i64 0, .int .i64 0, .slice none 0 0] _ _ H1.out
  have a2 := setRow_heap _ _ _ #[.int .i64 0, .int .i64 0, .int .i64 0, .int .i64 0, .slice none 0 0, .int .i64 0] _ _ ((setRow_other w2 w.heap.size (w.heap.size + 1) #[.int .i64 0, .int .i64 0, .int .i64 0, .slice none 0 0] (by omega)).trans H2.out)
  have a3 := (setRow_other (w2.setRow w.heap.size #[.int .i64 0, .int .i64 0, .int .i64 0, .slice none 0 0]) (w.heap.size + 1) w.heap.size #[.int .i64 0, .int .i64 0, .int .i64 0, .int .i64 0, .slice none 0 0, .int .i64 0] (by omega)).trans a1
  exact bodyPost_ret (res18 rfl rfl rfl a3 a2 rfl rfl) rfl ⟨rfl, (HK.out.setRow (.inr (Nat.le_refl _)) _).setRow (.inr (by omega)) _⟩
end Go.Proofs.Ytjhefbkigmamfaa
