/-
  What must come ('knows'), walked once: true.
-/
import Derived.Test.YtdkgbjbfmempdaaRy
namespace Go.Proofs.Ytdkgbjbfmempdaa
open Go.ChangeShapes Go.WideShapes Go.ChangeAt Go.RowKit Go.Deep
set_option linter.unusedVariables false

theorem ints_block {w : World} {b : Nat} {t : TypeId} {zs : List Int} (h : w.heap[b]? = some (.cells (zs.map (Value.int .i64)).toArray t (0, 0))) : Ints w (some ⟨b, 0, none⟩) zs := by
  intro i hi
  refine ⟨b, 0, rfl, ?_⟩
  rw [Nat.zero_add]
  refine cell_of h i ?_
  simp [List.getD, hi]
theorem Book.foot {w : World} {B b : Nat} {me : Int} {l : List Rd} {h : Nat → Int} {a : Option Addr} {cap : Nat} (k : Book w B b me l h a cap) {j : Nat} (hj : Foot b a j) : B ≤ j ∧ j < w.heap.size :=
  hj.elim (fun e => by rw [e]; exact ⟨k.ge, lt_of_block k.blk⟩) (fun e => k.own.from e.symm)

theorem ask1 : ask [] 7 3 1 = (0, [⟨7, 3, 1⟩]) := by simp [ask, ids]
def winsK (me : Int) (h : Nat → Int) : Rd → Bool := fun r => won [0, 1, 2] (yes me h r.rd)
theorem told1 : toldAll (fun r => won [0, 1, 2] (yes 0 mute r.rd)) [⟨7, 3, 1⟩] = [] ∧ keep (fun r => won [0, 1, 2] (yes 0 mute r.rd)) [⟨7, 3, 1⟩] = [⟨7, 3, 1⟩] := by
  have h : won [0, 1, 2] (yes 0 mute 1) = false := by decide
  simp [toldAll, keep, h]
theorem told2 : toldAll (fun r => won [0, 1, 2] (yes 0 (hear mute 1 1) r.rd)) [⟨7, 3, 1⟩] = [(7, 3)] ∧ keep (fun r => won [0, 1, 2] (yes 0 (hear mute 1 1) r.rd)) [⟨7, 3, 1⟩] = [] := by
  have h : won [0, 1, 2] (yes 0 (hear mute 1 1) 1) = true := by decide
  simp [toldAll, keep, h]

theorem ready012 {w : World} {B b : Nat} {me : Int} {l : List Rd} {h : Nat → Int} {a : Option Addr} {cap : Nat} (hb : Book w B b me l h a cap) (hl : l.length ≤ 1000) :
    Calls Try.prog 13 #[.pointer (some ⟨b, 0, none⟩), .slice (some ⟨w.heap.size, 0, none⟩) 3 3] (w.alloc (.cells #[.int .i64 0, .int .i64 1, .int .i64 2] 3)) fun e w' => ∃ o co, e = .returned (.slice o (toldAll (fun r => won [0, 1, 2] (yes me h r.rd)) l).length co) ∧
      Owns w' w.heap.size 39 2 o (toldAll (fun r => won [0, 1, 2] (yes me h r.rd)) l).length co (flat2 (toldAll (fun r => won [0, 1, 2] (yes me h r.rd)) l)) ∧
      Book w' B b me (keep (fun r => won [0, 1, 2] (yes me h r.rd)) l) h a cap ∧ Kp (Foot b a) w w' := by
  have hk := (Kp.refl (fun _ => False) w).alloc (.cells #[.int .i64 0, .int .i64 1, .int .i64 2] 3)
  refine (ready_any (hb.no hk) hl (zs := [0, 1, 2]) (ints_block (t := 3) (heap_new w _)) (fun _ g hg e => ?_) (by decide) 3).mono ?_
  · cases hg
    exact absurd (hb.own.from e).2 (Nat.lt_irrefl _)
  · rintro e w' ⟨o, co, rfl, h1, h2, h3⟩
    refine ⟨o, co, rfl, ⟨h1.1, ?_⟩, h2, (hk.mono (S' := Foot b a) (fun _ _ h => h.elim)).andThen h3 (fun _ _ h => h)⟩
    rcases h1.2 with h | ⟨g, cap', cur, hv, hge, r⟩
    · exact .inl h
    · exact .inr ⟨g, cap', cur, hv, by simp at hge; omega, r⟩

set_option maxHeartbeats 4000000 in
theorem knows_any (w : World) : Calls Try.prog 10 #[] w fun e w' => e = .returned (.bool true) ∧ Kp (fun _ => False) w w' := by
  go_enter Try.func10, Try.ntmps10
  go_wp2_with fail
  refine (new_good w 0 (by decide) (by decide)).mono ?_
  rintro e w1 ⟨b, rfl, hb1, hk1⟩
  have hK1 := hk1.no (B := w.heap.size)
  clear hk1
  go_wp2_with fail
  have hA := ask_any hb1 (by decide) 7 3 1
  rw [ask1] at hA
  refine hA.mono ?_
  clear hA
  rintro e w2 ⟨a2, cap2, rfl, hb2, hk2, _⟩
  have hK2 : Kp (fun j => w.heap.size ≤ j) w w2 := hK1.andThen hk2 (fun j _ h => (hb1.foot h).1)
  clear hK1 hb1 hk2
  go_wp2_with fail
  have hR := ready012 hb2 (by decide)
  rw [told1.1, told1.2] at hR
  refine hR.mono ?_
  clear hR
  rintro e w3 ⟨o3, co3, rfl, ho3, hb3, hk3⟩
  have hK3 : Kp (fun j => w.heap.size ≤ j) w w3 := hK2.andThen hk3 (fun j _ h => (hb2.foot h).1)
  clear hK2 hb2 hk3 ho3
  go_wp2_with fail
  refine (heard_good hb3 1 (by decide) 1 (by decide)).mono ?_
  rintro e w4 ⟨rfl, hb4, hk4⟩
  have hK4 : Kp (fun j => w.heap.size ≤ j) w w4 := hK3.andThen hk4 (fun j _ h => (hb3.foot (Or.inl h)).1)
  clear hK3 hb3 hk4
  go_wp2_with fail
  have hR := ready012 hb4 (by decide)
  rw [told2.1, told2.2] at hR
  refine hR.mono ?_
  clear hR
  rintro e w5 ⟨o5, co5, rfl, ho5, hb5, hk5⟩
  have hK5 : Kp (fun j => w.heap.size ≤ j) w w5 := hK4.andThen hk5 (fun j _ h => (hb4.foot h).1)
  obtain ⟨g, rfl, c0, c1⟩ := ho5.answers 0 (by decide)
  clear hK4 hb4 hk5 ho5 hb5
  have c0' : w5.cell? ⟨g, 0, none⟩ = some (.int .i64 7) := c0
  have c1' : w5.cell? ⟨g, 1, none⟩ = some (.int .i64 3) := c1
  clear c0 c1
  go_wp2_with (go_at_call 9; refine (num_any _ _).mono ?_; rintro e w6 ⟨rfl, rfl⟩)
  go_ret
  exact ⟨rfl, hK5.fin⟩
end Go.Proofs.Ytdkgbjbfmempdaa
