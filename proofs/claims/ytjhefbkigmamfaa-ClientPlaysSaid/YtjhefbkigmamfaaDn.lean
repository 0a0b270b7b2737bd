/-
  Done, walked once. No condition.
-/
import Derived.Test.YtjhefbkigmamfaaOw
import Derived.Deep.RegionHeld3
import Derived.Deep.DeepCutAuto
namespace Go.Proofs.Ytjhefbkigmamfaa
open Go.ChangeShapes Go.WideShapes Go.ChangeAt Go.RowKit
set_option linter.unusedVariables false

theorem res18 {tmps : Array Value} {w : World} {g1 g2 : Nat} {c1 c2 : Array Value} {t : Bool} (h2 : tmps.getD 2 undef = .pointer (some ⟨g1, 0, none⟩)) (h3 : tmps.getD 3 undef = .pointer (some ⟨g2, 0, none⟩)) (h4 : tmps.getD 4 undef = .bool t)
    (b1 : w.heap[g1]? = some (.cells c1 32 (0, 0))) (b2 : w.heap[g2]? = some (.cells c2 47 (0, 0))) (s1 : c1.size = 4) (s2 : c2.size = 6) : (results Try.f18 tmps).run Try.prog w = .ok (.tuple #[.agg c1, .agg c2, .bool t]) w := by
  have h2' : tmps[2]?.getD undef = .pointer (some ⟨g1, 0, none⟩) := by simpa using h2
  have h3' : tmps[3]?.getD undef = .pointer (some ⟨g2, 0, none⟩) := by simpa using h3
  have h4' : tmps[4]?.getD undef = .bool t := by simpa using h4
  have r1 := run_loadVar_row (P := Try.prog) w g1 32 32 c1 (0, 0) _ b1 Try.underlying32 rfl (by rw [s1]; kernel_rfl)
  have r2 := run_loadVar_row (P := Try.prog) w g2 47 47 c2 (0, 0) _ b2 Try.underlying47 rfl (by rw [s2]; kernel_rfl)
  simp [results, Try.results18, h2', h3', h4', asAddr, r1, r2]
set_option maxRecDepth 100000 in
set_option maxHeartbeats 4000000 in
theorem done_no {w : World} {B : Nat} {R : Nat → Prop} {b : Nat} {v : CV} (k : Client w B R b v) (hs : v.state ≠ 2) : Calls Try.prog 18 #[.pointer (some ⟨b, 0, none⟩)] w fun e w' => e = .returned (.tuple #[.agg #[.int .i64 0, .int .i64 0, .int .i64 0, .slice none 0 0], .agg #[.int .i64 0, .int .i64 0, .int .i64 0, .int .i64 0, .slice none 0 0, .int .i64 0], .bool false]) ∧ Kp (fun _ => False) w w' := by
  have hka : Kp (fun _ => False) w ((w.alloc (.cells #[.int .i64 0, .int .i64 0, .int .i64 0, .slice none 0 0] 32)).alloc (.cells #[.int .i64 0, .int .i64 0, .int .i64 0, .int .i64 0, .slice none 0 0, .int .i64 0] 47)) := ((Kp.refl _ _).alloc _).alloc _
  have k1 := k.no hka
  have h1 : ((w.alloc (.cells #[.int .i64 0, .int .i64 0, .int .i64 0, .slice none 0 0] 32)).alloc (.cells #[.int .i64 0, .int .i64 0, .int .i64 0, .int .i64 0, .slice none 0 0, .int .i64 0] 47)).heap[w.heap.size]? = some (.cells #[.int .i64 0, .int .i64 0, .int .i64 0, .slice none 0 0] 32 (0, 0)) := heap_old _ (heap_new w _)
  have h2 : ((w.alloc (.cells #[.int .i64 0, .int .i64 0, .int .i64 0, .slice none 0 0] 32)).alloc (.cells #[.int .i64 0, .int .i64 0, .int .i64 0, .int .i64 0, .slice none 0 0, .int .i64 0] 47)).heap[w.heap.size + 1]? = some (.cells #[.int .i64 0, .int .i64 0, .int .i64 0, .int .i64 0, .slice none 0 0, .int .i64 0] 47 (0, 0)) := by
    have h := heap_new (w.alloc (.cells #[.int .i64 0, .int .i64 0, .int .i64 0, .slice none 0 0] 32)) (.cells #[.int .i64 0, .int .i64 0, .int .i64 0, .int .i64 0, .slice none 0 0, .int .i64 0] 47)
    simpa using h
  have K1 := Lib.hid k1
  have H1 := Lib.hid h1
  have H2 := Lib.hid h2
  have HK := Lib.hid hka
  have hsb : (v.state != 2) = true := by simp [hs]
  clear k k1 h1 h2 hka hs
  go_enter Try.func18, Try.ntmps18
  go_upto_region 1 with fail
  generalize ((w.alloc (.cells #[.int .i64 0, .int .i64 0, .int .i64 0, .slice none 0 0] 32)).alloc (.cells #[.int .i64 0, .int .i64 0, .int .i64 0, .int .i64 0, .slice none 0 0, .int .i64 0] 47)) = w1 at K1 H1 H2 HK ⊢
  have c8 := cell_of K1.out.blk 8 (v := .int .i64 v.state) rfl
  go_wp2_with (first | (go_at_call 27; refine (none_no K1.out).mono ?_; rintro e w2 ⟨rfl, rfl⟩) | (refine wpList_store_row rfl 32 _ _ rfl w.heap.size _ rfl rfl 32 _ H1.out (by kernel_rfl) rfl (by simp [Value.oneCell']) ?_) | (refine wpList_store_row rfl 47 _ _ rfl (w.heap.size + 1) _ rfl rfl 47 _ ((setRow_other _ _ _ _ (by omega)).trans H2.out) (by kernel_rfl) rfl (by simp [Value.oneCell']) ?_))
  have a1 := setRow_heap _ _ _ #[.int .i64 0, .int .i64 0, .int .i64 0, .slice none 0 0] _ _ H1.out
  have a2 := setRow_heap _ _ _ #[.int .i64 0, .int .i64 0, .int .i64 0, .int .i64 0, .slice none 0 0, .int .i64 0] _ _ ((setRow_other w2 w.heap.size (w.heap.size + 1) #[.int .i64 0, .int .i64 0, .int .i64 0, .slice none 0 0] (by omega)).trans H2.out)
  have a3 := (setRow_other (w2.setRow w.heap.size #[.int .i64 0, .int .i64 0, .int .i64 0, .slice none 0 0]) (w.heap.size + 1) w.heap.size #[.int .i64 0, .int .i64 0, .int .i64 0, .int .i64 0, .slice none 0 0, .int .i64 0] (by omega)).trans a1
  exact bodyPost_ret (res18 rfl rfl rfl a3 a2 rfl rfl) rfl ⟨rfl, (HK.out.setRow (.inr (Nat.le_refl _)) _).setRow (.inr (by omega)) _⟩
end Go.Proofs.Ytjhefbkigmamfaa
