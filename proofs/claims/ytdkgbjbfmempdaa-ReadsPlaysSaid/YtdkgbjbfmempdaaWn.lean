/-
  The closure 'won' of Ready, walked once. No condition.
-/
import Derived.Test.YtdkgbjbfmempdaaCl
namespace Go.Proofs.Ytdkgbjbfmempdaa
open Go.ChangeShapes Go.WideShapes Go.ChangeAt Go.RowKit Go.Deep
set_option linter.unusedVariables false

/-- Who said yes, of the first k. -/
def yesK (me : Int) (h : Nat → Int) (rd : Int) : Nat → List Int
  | 0 => [me]
  | k + 1 => yesK me h rd k ++ (if rd ≤ h k then [(k : Int)] else [])
def yes (me : Int) (h : Nat → Int) (rd : Int) : List Int := yesK me h rd 16
theorem yesK_length (me : Int) (h : Nat → Int) (rd : Int) : ∀ k, 1 ≤ (yesK me h rd k).length ∧ (yesK me h rd k).length ≤ k + 1
  | 0 => by simp [yesK]
  | k + 1 => by
    have ih := yesK_length me h rd k
    unfold yesK
    split <;> simp <;> omega
theorem run_index16 (w : World) (h : Nat → Int) (k : Nat) (hk : k < 16) : (Instr.index 49 (.agg (sixteen h).toArray) (.int .i64 k)).run Try.prog w = .ok (.int .i64 (h k)) w := by
  have h1 := sixteen_get h k hk
  simp [Instr.index, run_underlying Try.underlying49, asIntOf, go_sem, hk, h1]
theorem Owns.one {w : World} {B : Nat} {b : Nat} {e : TypeId} {v : Value} (h : w.heap[b]? = some (.cells #[v] e (0, 0))) (hB : B ≤ b) : Owns w B e 1 (some ⟨b, 0, none⟩) 1 1 [v] :=
  ⟨by simp, .inr ⟨b, 1, #[v], rfl, hB, h, Nat.le_refl _, by unfold maxLen; omega, by simp, by simp⟩⟩

theorem hears_of {w : World} {b : Nat} {me : Int} {m : Bool} {lv : Value} {h : Nat → Int} (hb : w.heap[b]? = some (.cells (bookCells me m lv h) 51 (0, 0))) {j : Nat} (hj : j < 16) :
    w.cell? ⟨b, 3 + j, none⟩ = some (.int .i64 (h j)) := by
  refine cell_of hb (3 + j) ?_
  unfold bookCells
  rw [List.getElem?_toArray, show 3 + j = j + 1 + 1 + 1 by omega, List.getElem?_cons_succ, List.getElem?_cons_succ, List.getElem?_cons_succ]
  exact sixteen_get h j hj
theorem range_of {w : World} {b : Nat} {me : Int} {m : Bool} {lv : Value} {h : Nat → Int} (hb : w.heap[b]? = some (.cells (bookCells me m lv h) 51 (0, 0))) : w.rangeAt b 3 (sixteen h) := by
  intro j v hv
  have hj : j < 16 := (List.getElem?_eq_some_iff.1 hv).1
  have e := sixteen_get h j hj
  rw [hv] at e
  cases e
  exact hears_of hb hj

set_option maxHeartbeats 4000000 in
theorem wins_any {w : World} {b : Nat} {me : Int} {lv : Value} {h : Nat → Int} (hb : w.heap[b]? = some (.cells (bookCells me true lv h) 51 (0, 0))) {x : Option Addr} {zs : List Int} (hx : Ints w x zs) (mx : zs.length ≤ 35184372088832) (cx : Nat) (c1 c2 : Nat)
    (hc1 : w.cell? ⟨c1, 0, none⟩ = some (.pointer (some ⟨b, 0, none⟩))) (hc2 : w.cell? ⟨c2, 0, none⟩ = some (.slice x zs.length cx)) (r : Rd) :
    Calls Try.prog 22 #[.agg #[.int .i64 r.id, .int .i64 r.ix, .int .i64 r.rd], .pointer (some ⟨c1, 0, none⟩), .pointer (some ⟨c2, 0, none⟩)] w fun e w' => e = .returned (.bool (won zs (yes me h r.rd))) ∧ Kp (fun _ => False) w w' := by
  have hl1 := World.block_lt_of_cell? _ _ hc1
  have hl2 := World.block_lt_of_cell? _ _ hc2
  have d0 := cell_of hb 0 (v := .int .i64 me) rfl
  have HB := Lib.hid hb
  clear hb
  have HX := Lib.hid hx
  have hld := World.block_lt_of_cell? _ _ d0
  obtain ⟨rd, hrd⟩ : ∃ rd, rd = r.rd := ⟨_, rfl⟩
  rw [← hrd]
  clear hx hrd
  go_enter Try.func22, Try.ntmps22
  go_wp2_with (refine wpList_load_mid rfl 49 _ rfl b 3 rfl (sixteen h) _ (range_of (heap_old _ (heap_old _ HB.out))) Try.underlying49 rfl size49 ?_)
  have hI16 := @run_index16
  have HI16 := Lib.hid hI16
  clear hI16
  go_loopw [5, 17] (fun o i wr => ∃ (k : Nat) (oa : Option Addr) (co : Nat), i = .int .i64 k ∧ k ≤ 16 ∧ o = .slice oa (yesK me h rd k).length co ∧ Owns wr (w.heap.size + 1) 3 1 oa (yesK me h rd k).length co ((yesK me h rd k).map (Value.int .i64)) ∧ wr.heap[w.heap.size]? = some (.cells #[.int .i64 r.id, .int .i64 r.ix, .int .i64 rd] 57 (0, 0)) ∧ Kp (fun _ => False) w wr) (fun _ i _ => 16 - (intOf i).toNat)
  case atStart =>
    have h2 : ∀ o o', ((w.alloc o).alloc o').heap[w.heap.size + 1]? = some o' := fun o o' => by simpa using heap_new (w.alloc o) o'
    exact ⟨0, _, _, rfl, by omega, rfl, Owns.one (h2 _ _) (Nat.le_refl _), heap_old _ (heap_new w _), ((Kp.refl _ _).alloc _).alloc _⟩
  case round =>
    obtain ⟨k, oa, co, rfl, hk, rfl, ho, hbx, hK⟩ := hrel
    have hyl := yesK_length me h rd k
    by_cases hlt : k < 16
    · have hix := fun w' => HI16.out w' h k hlt
      have hrd := cell_of hbx 2 (v := .int .i64 rd) rfl
      have hyS : yesK me h rd (k + 1) = yesK me h rd k ++ (if rd ≤ h k then [(k : Int)] else []) := rfl
      generalize yesK me h rd k = ys at ho hyS hyl ⊢
      have hkI : (k : Int) < 16 := by omega
      have hk0 : (0 : Int) ≤ (k : Int) := by omega
      have HBX := Lib.hid hbx
      clear hbx
      generalize h k = hk' at hix hyS
      obtain ⟨ny, hny⟩ : ∃ ny, ny = ys.length := ⟨_, rfl⟩
      rw [← hny] at ho hyl ⊢
      have HNY := Lib.hid hny
      clear hny
      by_cases hge : rd ≤ hk'
      · rw [if_pos hge] at hyS
        have HY := Lib.hid hyS
        clear hyS
        go_wp2_with (at_builtin; refine Stop.mk ?_)
        unfold Stop
        have hsz := hK.size
        refine wpList_app rfl _ _ 23 rfl (w.heap.size + 1) 3 info3 Try.underlying23 rfl (by decide) rfl (Owns.kp ho ((Kp.refl (fun _ => False) _).alloc _) (fun _ _ h => h)) rfl (news := [(k : Int)].map (Value.int .i64)) (by simp) (fun j u hu => ⟨_, rfl, ?c1⟩) (one_int _) (by unfold maxLen; omega) (by omega) (by simp; have := lt_of_block HBX.out; omega) ?_
        case c1 =>
          match j, hu with
          | 0, hu => simp at hu; subst hu; simp [Addr.add]
          | j + 1, hu => simp at hu
        intro a' cap' w3 ho3 hk3
        have hfrom : ∀ i, some i = blockOf oa → w.heap.size + 1 ≤ i := fun i e => (Owns.from ho e.symm).1
        have hK3 : Kp (fun _ => False) w w3 := (hK.alloc _).andThen hk3 (fun i hi e => by have := hfrom i e; omega)
        have hbx3 := hk3.heap (heap_old (.cells #[.int .i64 k] 3) HBX.out) (fun e => by have := hfrom _ e; omega)
        have HB3 := Lib.hid hbx3
        rw [← List.map_append] at ho3
        clear hk3 ho hsz hK hbx3 hfrom HBX
        go_wp2
        go_roundw
        case rel => exact ⟨k + 1, a', cap', by go_num, by omega, by rw [HY.out]; simp [HNY.out], by rw [HY.out]; simpa [HNY.out] using ho3, HB3.out, hK3⟩
        case measure => simp [intOf]; omega
      · rw [if_neg hge, List.append_nil] at hyS
        have HY := Lib.hid hyS
        clear hyS
        go_wp2_with fail
        go_roundw
        case rel => exact ⟨k + 1, oa, co, by go_num, by omega, by rw [HY.out, HNY.out], by rw [HY.out, ← HNY.out]; exact ho, HBX.out, hK⟩
        case measure => simp [intOf]; omega
    · obtain rfl : k = 16 := by omega
      have e2 := (hK.cell (p := ⟨c2, 0, none⟩) hl2 (fun h => h)).trans hc2
      have hys : yesK me h rd 16 = yes me h rd := rfl
      rw [hys] at ho hyl ⊢
      have HW := Lib.hid (won_any (HX.out.no hK) ho.ints mx (by unfold maxLen; omega) cx co)
      clear ho hbx hys
      go_wp2_with (go_at_call 23; refine HW.out.mono ?_; rintro e w4 ⟨rfl, hk4⟩)
      go_ret
      exact ⟨rfl, hK.andThen hk4 (fun _ _ h => h)⟩
end Go.Proofs.Ytdkgbjbfmempdaa
