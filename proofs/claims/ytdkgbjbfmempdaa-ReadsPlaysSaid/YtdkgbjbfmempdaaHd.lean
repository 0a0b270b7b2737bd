/-
  Heard and Waiting, each walked once. No condition.
-/
import Derived.Test.YtdkgbjbfmempdaaNr
namespace Go.Proofs.Ytdkgbjbfmempdaa
open Go.ChangeShapes Go.WideShapes Go.ChangeAt Go.RowKit Go.Deep
set_option linter.unusedVariables false

/-- What was heard, and now f in round r. -/
def hear (h : Nat → Int) (f : Nat) (r : Int) : Nat → Int := fun j => if j = f then max (h f) r else h j

theorem bookCells_set (me : Int) (m : Bool) (l : Value) (h : Nat → Int) (f : Nat) (hf : f < 16) (v : Int) : (bookCells me m l h).setIfInBounds (3 + f) (.int .i64 v) = bookCells me m l (fun j => if j = f then v else h j) := by
  unfold bookCells
  rw [List.setIfInBounds_toArray, show 3 + f = f + 1 + 1 + 1 by omega, List.set_cons_succ, List.set_cons_succ, List.set_cons_succ, sixteen_set h f hf v]

theorem Book.heard {w : World} {B b : Nat} {me : Int} {l : List Rd} {h : Nat → Int} {a : Option Addr} {cap : Nat} (k : Book w B b me l h a cap) {f : Nat} (hf : f < 16) {r v : Int} (hv : v = max (h f) r) :
    Book (w.setCell ⟨b, 3 + f, none⟩ (.int .i64 v)).drew B b me l (hear h f r) a cap ∧ Kp (fun k => k = b) w (w.setCell ⟨b, 3 + f, none⟩ (.int .i64 v)).drew := by
  have hk : Kp (fun k => k = b) w (w.setCell ⟨b, 3 + f, none⟩ (.int .i64 v)).drew := ((Kp.refl (fun k => k = b) _).setCell (p := ⟨b, 3 + f, none⟩) (Or.inl rfl) _).drew
  refine ⟨⟨?_, k.own.kp hk (fun g hg e => k.ne (e ▸ hg)), k.ge⟩, hk⟩
  have := heap_set k.blk (3 + f) (.int .i64 v)
  rw [bookCells_set _ _ _ _ f hf] at this
  subst hv
  exact this

set_option maxHeartbeats 4000000 in
theorem heard_bad {w : World} {B b : Nat} {me : Int} {l : List Rd} {h : Nat → Int} {a : Option Addr} {cap : Nat} (hb : Book w B b me l h a cap) (f r : Int) (hbad : (decide (f < 0) || decide (16 ≤ f) || decide (r < 0)) = true) :
    Calls Try.prog 12 #[.pointer (some ⟨b, 0, none⟩), .int .i64 f, .int .i64 r] w fun e w' => e = .returned (.int .i64 1) ∧ w' = w := by
  have hn := none_no hb.blk (m := true) rfl
  have HN := Lib.hid hn
  clear hn
  go_enter Try.func12, Try.ntmps12
  go_wp2_with (go_at_call 20; refine HN.out.mono ?_; rintro e w1 ⟨rfl, rfl⟩)
  all_goals go_ret
  all_goals exact ⟨rfl, rfl⟩

set_option maxHeartbeats 4000000 in
theorem heard_good {w : World} {B b : Nat} {me : Int} {l : List Rd} {h : Nat → Int} {a : Option Addr} {cap : Nat} (hb : Book w B b me l h a cap) (f : Nat) (hf : f < 16) (r : Int) (hr : 0 ≤ r) :
    Calls Try.prog 12 #[.pointer (some ⟨b, 0, none⟩), .int .i64 f, .int .i64 r] w fun e w' => e = .returned (.int .i64 0) ∧ Book w' B b me l (hear h f r) a cap ∧ Kp (fun k => k = b) w w' := by
  have hn := none_no hb.blk (m := true) rfl
  have HN := Lib.hid hn
  have hc := hb.hears hf
  have hfr := free_of hb.blk (3 + f)
  have HB := Lib.hid hb
  have hg : (decide ((f : Int) < 0) || decide (16 ≤ (f : Int)) || decide (r < 0)) = false := by simp; omega
  have h16 : (f : Int) < 16 := by omega
  have h00 : (0 : Int) ≤ (f : Int) := by omega
  clear hn hb
  go_enter Try.func12, Try.ntmps12
  go_wp2_with (go_at_call 20; refine HN.out.mono ?_; rintro e w1 ⟨rfl, rfl⟩)
  go_still_tail 13, (by kernel_rfl)
  go_wp2
  all_goals go_ret
  · exact ⟨rfl, HB.out.heard hf (by omega)⟩
  · exact ⟨rfl, HB.out.heard hf (by omega)⟩

def ids (l : List Rd) : List Int := l.map (·.id)
theorem ids_take_succ (l : List Rd) (k : Nat) (hk : k < l.length) : ids (l.take (k + 1)) = ids (l.take k) ++ [(l.getD k default).id] := by
  unfold ids
  rw [List.take_succ_eq_append_getElem hk, List.map_append]
  simp [List.getD, List.getElem?_eq_getElem hk]
theorem ids_length (l : List Rd) : (ids l).length = l.length := by simp [ids]

set_option maxHeartbeats 4000000 in
theorem waiting_any {w : World} {B b : Nat} {me : Int} {l : List Rd} {h : Nat → Int} {a : Option Addr} {cap : Nat} (hb : Book w B b me l h a cap) (hl : l.length ≤ 1000) :
    Calls Try.prog 14 #[.pointer (some ⟨b, 0, none⟩)] w fun e w' => ∃ o co, e = .returned (.slice o l.length co) ∧ Owns w' w.heap.size 3 1 o l.length co ((ids l).map (Value.int .i64)) ∧ Kp (fun _ => False) w w' := by
  have hn := none_no hb.blk (m := true) rfl
  have HN := Lib.hid hn
  obtain ⟨c0, c1, c2⟩ := hb.cells
  have HB := Lib.hid hb
  have hr := hb.own.reads
  have HR := Lib.hid hr
  clear hn hb hr
  go_enter Try.func14, Try.ntmps14
  go_wp2_with (go_at_call 20; refine HN.out.mono ?_; rintro e w1 ⟨rfl, rfl⟩)
  go_loopw [3, 13] (fun o i wr => ∃ (k : Nat) (oa : Option Addr) (co : Nat), i = .int .i64 k ∧ k ≤ l.length ∧ o = .slice oa k co ∧ Owns wr w1.heap.size 3 1 oa k co ((ids (l.take k)).map (Value.int .i64)) ∧ Kp (fun _ => False) w1 wr) (fun _ i _ => l.length - (intOf i).toNat)
  case atStart => exact ⟨0, none, 0, rfl, Nat.zero_le _, rfl, by simpa [ids] using Owns.nil _ _ 3 1, Kp.refl _ _⟩
  case round =>
    obtain ⟨k, oa, co, rfl, hk, rfl, ho, hK⟩ := hrel
    by_cases hlt : k < l.length
    · obtain ⟨g, rfl, d0, d1, d2⟩ := HR.out k hlt
      have hS := ids_take_succ l k hlt
      generalize l.getD k default = x at d0 d1 d2 hS
      have hg := World.block_lt_of_cell? _ _ d0
      have e0 := (hK.cell (p := ⟨g, k * 3, none⟩) hg (fun h => h)).trans d0
      have e1 := (hK.cell (p := ⟨g, k * 3 + 1, none⟩) hg (fun h => h)).trans d1
      have e2 := (hK.cell (p := ⟨g, k * 3 + 2, none⟩) hg (fun h => h)).trans d2
      have HS := Lib.hid hS
      clear d0 d1 d2 hS hg
      have hkI : (k : Int) < (l.length : Int) := by omega
      have hk0 : (0 : Int) ≤ (k : Int) := by omega
      go_wp2_with (at_builtin; refine Stop.mk ?_)
      unfold Stop
      have hKa := (hK.alloc (.cells #[.int .i64 x.id, .int .i64 x.ix, .int .i64 x.rd] 57)).alloc (.cells #[.int .i64 x.id] 3)
      have hsz := hK.size
      refine wpList_app rfl _ _ 23 rfl w1.heap.size 3 info3 Try.underlying23 rfl (by decide) rfl (Owns.kp ho (((Kp.refl (fun _ => False) _).alloc _).alloc _) (fun _ _ h => h)) rfl (news := [x.id].map (Value.int .i64)) (by simp) (fun j u hu => ⟨_, rfl, ?c1⟩) (one_int _) (by unfold maxLen; omega) (by omega) (by simp; omega) ?_
      case c1 =>
        match j, hu with
        | 0, hu => simp at hu; subst hu; simp [Addr.add]
        | j + 1, hu => simp at hu
      intro a' cap' w3 ho3 hk3
      have hK3 : Kp (fun _ => False) w1 w3 := hKa.andThen hk3 (fun i hi e => by have := Owns.from ho e.symm; omega)
      rw [← List.map_append] at ho3
      clear hk3 ho hsz hKa hK
      go_wp2
      go_roundw
      case rel => first | exact ⟨k + 1, a', cap', by go_num, by omega, rfl, by rw [HS.out]; exact ho3, hK3⟩ | ((repeat apply Exists.intro); exact ⟨⟨k + 1, a', cap', by go_num, by omega, rfl, by rw [HS.out]; exact ho3, hK3⟩, rfl⟩)
      case measure => simp [intOf]; omega
    · obtain rfl : k = l.length := by omega
      rw [List.take_length] at ho
      have HO := Lib.hid ho
      clear ho
      go_wp2_with fail
      go_ret
      exact ⟨oa, co, rfl, HO.out, hK⟩
end Go.Proofs.Ytdkgbjbfmempdaa
