/-
  number, next and the looks of a client, each walked once. No condition but bounds on the numbers.
-/
import Derived.Test.YtjhefbkigmamfaaCs
import Derived.BigRegion
namespace Go.Proofs.Ytjhefbkigmamfaa
open Go.ChangeShapes Go.WideShapes Go.ChangeAt Go.RowKit
set_option linter.unusedVariables false

/-- A number that is counted up by ones. -/
def Few (z : Int) : Prop := 0 ≤ z ∧ z ≤ 1000000000000000
theorem number_any {w : World} {B : Nat} {R : Nat → Prop} {b : Nat} {v : CV} (k : Client w B R b v) (ht : Few v.tries) : Calls Try.prog 32 #[.pointer (some ⟨b, 0, none⟩)] w fun r w' => r = .returned (.int .i64 (v.id * 1000000 + v.tries)) ∧ Kp (fun _ => False) w w' := by
  have c1 := cell_of k.blk 2 (v := .int .i64 v.id) rfl
  have c2 := cell_of k.blk 7 (v := .int .i64 v.tries) rfl
  have i1 := k.id1
  have i2 := k.id2
  obtain ⟨t0, t1⟩ := ht
  have w1 : IntKind.i64.wrap (v.id * 1000000) = v.id * 1000000 := IntWalk.i64_in _ (by omega)
  have w2 : IntKind.i64.wrap (v.id * 1000000 + v.tries) = v.id * 1000000 + v.tries := IntWalk.i64_in _ (by omega)
  clear i1 i2 t0 t1 k
  go_enter Try.func32, Try.ntmps32
  go_wp2_with fail
  go_quiet (fail)
  go_wp2
  go_ret
  exact ⟨rfl, (Kp.refl _ _).drewN _⟩

/-- The next place. -/
def nextAt (v : CV) : Nat := (v.at_ + 1) % v.sl.length
theorem next_lt {w : World} {B : Nat} {R : Nat → Prop} {b : Nat} {v : CV} (k : Client w B R b v) : nextAt v < v.sl.length := Nat.mod_lt _ k.one
theorem next_any {w : World} {B : Nat} {R : Nat → Prop} {b : Nat} {v : CV} (k : Client w B R b v) : Calls Try.prog 31 #[.pointer (some ⟨b, 0, none⟩)] w fun r w' => r = .returned (.tuple #[]) ∧ Client w' B R b { v with at_ := nextAt v } ∧ Kp (fun j => j = b) w w' := by
  have c0 := cell_of k.blk 0 (v := .slice v.sa v.sl.length v.sc) rfl
  have c1 := cell_of k.blk 1 (v := .int .i64 v.at_) rfl
  have f1 := free_of k.blk 1
  have h1 := k.one
  have h7 := k.seven
  have hat := k.at_
  have w1 : IntKind.i64.wrap ((v.at_ : Int) + 1) = (v.at_ : Int) + 1 := IntWalk.i64_in _ (by omega)
  have hmod : ((v.at_ : Int) + 1).tmod (v.sl.length : Int) = ((nextAt v : Nat) : Int) := by
    rw [Int.tmod_eq_emod_of_nonneg (by omega)]
    simp [nextAt]
  have HK := Lib.hid k
  have HN := Lib.hid (show nextAt v < v.sl.length from next_lt k)
  generalize v.sl.length = n at c0 h1 h7 hmod hat
  have hne : ¬ (n : Int) = 0 := by omega
  clear k h1 h7 hat
  go_enter Try.func31, Try.ntmps31
  go_wp2_with fail
  go_region
  go_end0
  have k := HK.out
  have hk : Kp (fun j => j = b) w (w.setCell ⟨b, 1, none⟩ (.int .i64 (nextAt v : Nat))) := (Kp.refl (fun j => j = b) _).setCell (p := ⟨b, 1, none⟩) (.inl rfl) _
  exact ⟨rfl, k.set (w' := (w.setCell ⟨b, 1, none⟩ (.int .i64 (nextAt v : Nat))).drew) hk.drew { v with at_ := nextAt v } (heap_set k.blk 1 (.int .i64 (nextAt v : Nat))) ⟨rfl, rfl, rfl, rfl, rfl, rfl, rfl⟩ HN.out ⟨k.ord, k.ordR, k.ordL⟩ ⟨k.ans, k.ansR, k.rec_⟩, hk.drew⟩

/-- The looks. -/
theorem tries_any {w : World} {B : Nat} {R : Nat → Prop} {b : Nat} {v : CV} (k : Client w B R b v) : Calls Try.prog 16 #[.pointer (some ⟨b, 0, none⟩)] w fun r w' => r = .returned (.int .i64 v.tries) ∧ w' = w := by
  have c := cell_of k.blk 7 (v := .int .i64 v.tries) rfl
  have HK := Lib.hid k
  clear k
  go_enter Try.func16, Try.ntmps16
  go_wp2_with (first | (go_at_call 27; refine (none_no HK.out).mono ?_; rintro e w1 ⟨rfl, rfl⟩))
  go_ret
  exact ⟨rfl, rfl⟩
theorem session_any {w : World} {B : Nat} {R : Nat → Prop} {b : Nat} {v : CV} (k : Client w B R b v) : Calls Try.prog 23 #[.pointer (some ⟨b, 0, none⟩)] w fun r w' => r = .returned (.int .i64 v.session) ∧ w' = w := by
  have c := cell_of k.blk 5 (v := .int .i64 v.session) rfl
  have HK := Lib.hid k
  clear k
  go_enter Try.func23, Try.ntmps23
  go_wp2_with (first | (go_at_call 27; refine (none_no HK.out).mono ?_; rintro e w1 ⟨rfl, rfl⟩))
  go_ret
  exact ⟨rfl, rfl⟩
theorem seq_any {w : World} {B : Nat} {R : Nat → Prop} {b : Nat} {v : CV} (k : Client w B R b v) : Calls Try.prog 24 #[.pointer (some ⟨b, 0, none⟩)] w fun r w' => r = .returned (.int .i64 v.seq) ∧ w' = w := by
  have c := cell_of k.blk 6 (v := .int .i64 v.seq) rfl
  have HK := Lib.hid k
  clear k
  go_enter Try.func24, Try.ntmps24
  go_wp2_with (first | (go_at_call 27; refine (none_no HK.out).mono ?_; rintro e w1 ⟨rfl, rfl⟩))
  go_ret
  exact ⟨rfl, rfl⟩
theorem busy_any {w : World} {B : Nat} {R : Nat → Prop} {b : Nat} {v : CV} (k : Client w B R b v) : Calls Try.prog 17 #[.pointer (some ⟨b, 0, none⟩)] w fun r w' => r = .returned (.bool (v.state != 0)) ∧ w' = w := by
  have c := cell_of k.blk 8 (v := .int .i64 v.state) rfl
  have HK := Lib.hid k
  clear k
  go_enter Try.func17, Try.ntmps17
  go_wp2_with (first | (go_at_call 27; refine (none_no HK.out).mono ?_; rintro e w1 ⟨rfl, rfl⟩))
  go_ret
  exact ⟨rfl, rfl⟩
theorem calls_any {w : World} {B : Nat} {R : Nat → Prop} {b : Nat} {v : CV} (k : Client w B R b v) : Calls Try.prog 14 #[.pointer (some ⟨b, 0, none⟩)] w fun r w' => r = .returned (.slice v.ca v.cl.length v.cc) ∧ Client w' B R b { v with ca := none, cl := [], cc := 0 } ∧ Kp (fun j => j = b) w w' := by
  have c := cell_of k.blk 19 (v := .slice v.ca v.cl.length v.cc) rfl
  have f := free_of k.blk 19
  have HK := Lib.hid k
  clear k
  go_enter Try.func14, Try.ntmps14
  go_wp2_with (first | (go_at_call 27; refine (none_no HK.out).mono ?_; rintro e w1 ⟨rfl, rfl⟩))
  go_ret
  have k := HK.out
  have hk : Kp (fun j => j = b) w1 (w1.setCell ⟨b, 19, none⟩ (.slice none 0 0)) := (Kp.refl (fun j => j = b) _).setCell (p := ⟨b, 19, none⟩) (.inl rfl) _
  refine ⟨rfl, ?_, hk⟩
  have hR : ∀ j, R j → ¬ j = b := fun j hj e => k.dis b (.inl rfl) (e ▸ hj)
  exact ⟨heap_set k.blk 19 (.slice none 0 0), k.ge, k.srv.kp hk (fun g hg => hR g (k.srvR g hg)), k.srvR, k.one, k.seven, k.rs, k.at_, k.id1, k.id2, k.pat1, k.pat2, k.ord.kp hk (fun g hg => hR g (k.ordR g hg)), k.ordR, k.ordL, k.ans.kp hk (fun g hg => hR g (k.ansR g hg)), k.ansR,
    fun r hr => ⟨(k.rec_ r hr).1.kp hk (fun g hg => hR g ((k.rec_ r hr).2 g hg)), (k.rec_ r hr).2⟩, Owns.nil _ _ _ _, fun q hq => (by cases hq), fun j hj => k.dis j (hj.elim .inl (fun e => by cases e)), fun j hj => ⟨(k.lt j hj).1, Nat.lt_of_lt_of_le (k.lt j hj).2 hk.size⟩⟩
end Go.Proofs.Ytjhefbkigmamfaa
