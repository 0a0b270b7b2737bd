/-
  The document's book in memory; its forget, New, Hear, Waiting, Clear, each walked once. No condition.
-/
import Derived.Test.YtdkgbjbfmempdaaCl

namespace Go.Proofs.Ytdkgbjbfmempdaa
open Go.ChangeShapes Go.WideShapes Go.ChangeAt Go.RowKit Go.Deep
set_option linter.unusedVariables false

def rbCells (me : Int) (l : Value) (h : Nat → Int) : Array Value := (.int .i64 me :: l :: sixteen h).toArray
theorem rbCells_set (me : Int) (l : Value) (h : Nat → Int) (f : Nat) (hf : f < 16) (v : Int) : (rbCells me l h).setIfInBounds (2 + f) (.int .i64 v) = rbCells me l (fun j => if j = f then v else h j) := by
  unfold rbCells
  rw [List.setIfInBounds_toArray, show 2 + f = f + 1 + 1 by omega, List.set_cons_succ, List.set_cons_succ, sixteen_set h f hf v]
theorem rbCells_list (me : Int) (l l' : Value) (h : Nat → Int) : (rbCells me l h).setIfInBounds 1 l' = rbCells me l' h := rfl
theorem rhears_of {w : World} {b : Nat} {me : Int} {lv : Value} {h : Nat → Int} (hb : w.heap[b]? = some (.cells (rbCells me lv h) 62 (0, 0))) {j : Nat} (hj : j < 16) : w.cell? ⟨b, 2 + j, none⟩ = some (.int .i64 (h j)) := by
  refine cell_of hb (2 + j) ?_
  unfold rbCells
  rw [List.getElem?_toArray, show 2 + j = j + 1 + 1 by omega, List.getElem?_cons_succ, List.getElem?_cons_succ]
  exact sixteen_get h j hj

/-- The document's book: its block b, its list at a. All its memory is from B on. -/
structure RBook (w : World) (B b : Nat) (me : Int) (l : List Rd) (h : Nat → Int) (a : Option Addr) (cap : Nat) : Prop where
  blk : w.heap[b]? = some (.cells (rbCells me (.slice a l.length cap) h) 62 (0, 0))
  own : Owns w B 74 3 a l.length cap (flat l)
  ge : B ≤ b
theorem RBook.ne {w : World} {B b : Nat} {me : Int} {l : List Rd} {h : Nat → Int} {a : Option Addr} {cap : Nat} (k : RBook w B b me l h a cap) : blockOf a ≠ some b := by
  intro e
  obtain ⟨cur, hc⟩ := k.own.type e
  have := k.blk.symm.trans hc
  cases this
theorem RBook.kp {w w' : World} {B b : Nat} {me : Int} {l : List Rd} {h : Nat → Int} {a : Option Addr} {cap : Nat} (k : RBook w B b me l h a cap) {S : Nat → Prop} (hk : Kp S w w') (h1 : ¬ S b) (h2 : ∀ g, blockOf a = some g → ¬ S g) : RBook w' B b me l h a cap :=
  ⟨hk.heap k.blk h1, k.own.kp hk h2, k.ge⟩
theorem RBook.no {w w' : World} {B b : Nat} {me : Int} {l : List Rd} {h : Nat → Int} {a : Option Addr} {cap : Nat} (k : RBook w B b me l h a cap) (hk : Kp (fun _ => False) w w') : RBook w' B b me l h a cap :=
  k.kp hk (fun h => h) (fun _ _ h => h)
theorem RBook.foot {w : World} {B b : Nat} {me : Int} {l : List Rd} {h : Nat → Int} {a : Option Addr} {cap : Nat} (k : RBook w B b me l h a cap) {j : Nat} (hj : Foot b a j) : B ≤ j ∧ j < w.heap.size :=
  hj.elim (fun e => by rw [e]; exact ⟨k.ge, lt_of_block k.blk⟩) (fun e => k.own.from e.symm)

set_option maxHeartbeats 4000000 in
theorem forget_any {w : World} {b : Nat} {me : Int} {lv : Value} {h : Nat → Int} (hb : w.heap[b]? = some (.cells (rbCells me lv h) 62 (0, 0))) :
    Calls Try.prog 26 #[.pointer (some ⟨b, 0, none⟩)] w fun e w' => e = .returned (.tuple #[]) ∧ w'.heap[b]? = some (.cells (rbCells me lv mute) 62 (0, 0)) ∧ Kp (fun k => k = b) w w' := by
  have HB := Lib.hid hb
  clear hb
  go_enter Try.func26, Try.ntmps26
  go_wp2_with fail
  go_loopw [2] (fun i wr => ∃ k : Nat, i = .int .i64 k ∧ k ≤ 16 ∧ wr.heap[b]? = some (.cells (rbCells me lv (fun j => if j < k then -1 else h j)) 62 (0, 0)) ∧ Kp (fun k => k = b) w wr) (fun i _ => 16 - (intOf i).toNat)
  case atStart => exact ⟨0, rfl, by omega, by simpa using HB.out, Kp.refl _ _⟩
  case round =>
    obtain ⟨k, rfl, hk, hc, hK⟩ := hrel
    by_cases hlt : k < 16
    · have h0 := rhears_of hc hlt
      have hf := free_of hc (2 + k)
      have hset := heap_set hc (2 + k) (.int .i64 (-1))
      have hfn : (fun j => if j = k then (-1 : Int) else if j < k then -1 else h j) = (fun j => if j < k + 1 then -1 else h j) := by
        funext j
        by_cases h1 : j = k
        · simp [h1]
        · by_cases h2 : j < k
          · rw [if_neg h1, if_pos h2, if_pos (by omega)]
          · rw [if_neg h1, if_neg h2, if_neg (by omega)]
      rw [rbCells_set _ _ _ _ hlt, hfn] at hset
      have HS := Lib.hid hset
      have hkI : (k : Int) < 16 := by omega
      have hk0 : (0 : Int) ≤ (k : Int) := by omega
      clear hset hfn hc
      go_wp2_with fail
      go_roundw
      case rel => exact ⟨k + 1, by go_num, by omega, HS.out, hK.setCell (p := ⟨b, 2 + k, none⟩) (Or.inl rfl) _⟩
      case measure => simp [intOf]; omega
    · obtain rfl : k = 16 := by omega
      have e : rbCells me lv (fun j => if j < 16 then -1 else h j) = rbCells me lv mute := by simp [rbCells, sixteen, mute]
      rw [e] at hc
      have HC := Lib.hid hc
      clear hc e
      go_wp2_with fail
      go_end0
      exact ⟨rfl, HC.out, hK⟩

theorem rbuilt (me : Int) : (#[.int .i64 me, .slice none 0 0, .int .i64 0, .int .i64 0, .int .i64 0, .int .i64 0, .int .i64 0, .int .i64 0, .int .i64 0, .int .i64 0, .int .i64 0, .int .i64 0, .int .i64 0, .int .i64 0, .int .i64 0, .int .i64 0, .int .i64 0, .int .i64 0] : Array Value) = rbCells me (.slice none 0 0) (fun _ => 0) := rfl

set_option maxHeartbeats 4000000 in
theorem rnew_bad (w : World) (me : Int) (h : (decide (me < 0) || decide (16 ≤ me)) = true) : Calls Try.prog 15 #[.int .i64 me] w fun e w' => e = .returned (.pointer none) ∧ w' = w := by
  go_enter Try.func15, Try.ntmps15
  go_wp2_with fail
  all_goals go_ret
  all_goals exact ⟨rfl, rfl⟩

set_option maxHeartbeats 400000 in
theorem rnew_good (w : World) (me : Int) (h0 : 0 ≤ me) (h1 : me < 16) : Calls Try.prog 15 #[.int .i64 me] w fun e w' => ∃ b, e = .returned (.pointer (some ⟨b, 0, none⟩)) ∧ RBook w' w.heap.size b me [] mute none 0 ∧ Kp (fun _ => False) w w' := by
  have hf : ∀ (w' : World), w'.heap[w.heap.size]? = some (.cells (rbCells me (.slice none 0 0) (fun _ => 0)) 62 (0, 0)) → _ := fun w' h => forget_any (w := w') (b := w.heap.size) h
  have HF := Lib.hid hf
  clear hf
  go_enter Try.func15, Try.ntmps15
  go_wp2_with (go_at_call 26; refine (HF.out _ (heap_new w _)).mono ?_; rintro e w1 ⟨rfl, hb, hk⟩)
  go_ret
  exact ⟨w.heap.size, rfl, ⟨hb, Owns.nil _ _ _ _, Nat.le_refl _⟩, ((Kp.refl (fun _ => False) w).alloc _).andThen hk (fun j hj e => by omega)⟩

set_option maxHeartbeats 4000000 in
theorem hear_bad {w : World} (b : Nat) (f r : Int) (hbad : (decide (f < 0) || decide (16 ≤ f) || decide (r < 0)) = true) :
    Calls Try.prog 28 #[.pointer (some ⟨b, 0, none⟩), .int .i64 f, .int .i64 r] w fun e w' => e = .returned (.int .i64 1) ∧ w' = w := by
  go_enter Try.func28, Try.ntmps28
  go_wp2_with fail
  all_goals go_ret
  all_goals exact ⟨rfl, rfl⟩
theorem RBook.heard {w : World} {B b : Nat} {me : Int} {l : List Rd} {h : Nat → Int} {a : Option Addr} {cap : Nat} (k : RBook w B b me l h a cap) {f : Nat} (hf : f < 16) {r v : Int} (hv : v = max (h f) r) :
    RBook (w.setCell ⟨b, 2 + f, none⟩ (.int .i64 v)).drew B b me l (hear h f r) a cap ∧ Kp (fun k => k = b) w (w.setCell ⟨b, 2 + f, none⟩ (.int .i64 v)).drew := by
  have hk : Kp (fun k => k = b) w (w.setCell ⟨b, 2 + f, none⟩ (.int .i64 v)).drew := ((Kp.refl (fun k => k = b) _).setCell (p := ⟨b, 2 + f, none⟩) (Or.inl rfl) _).drew
  refine ⟨⟨?_, k.own.kp hk (fun g hg e => k.ne (e ▸ hg)), k.ge⟩, hk⟩
  have := heap_set k.blk (2 + f) (.int .i64 v)
  rw [rbCells_set _ _ _ f hf] at this
  subst hv
  exact this
set_option maxHeartbeats 4000000 in
theorem hear_good {w : World} {B b : Nat} {me : Int} {l : List Rd} {h : Nat → Int} {a : Option Addr} {cap : Nat} (hb : RBook w B b me l h a cap) (f : Nat) (hf : f < 16) (r : Int) (hr : 0 ≤ r) :
    Calls Try.prog 28 #[.pointer (some ⟨b, 0, none⟩), .int .i64 f, .int .i64 r] w fun e w' => e = .returned (.int .i64 0) ∧ RBook w' B b me l (hear h f r) a cap ∧ Kp (fun k => k = b) w w' := by
  have hc := rhears_of hb.blk hf
  have hfr := free_of hb.blk (2 + f)
  have HB := Lib.hid hb
  have hg : (decide ((f : Int) < 0) || decide (16 ≤ (f : Int)) || decide (r < 0)) = false := by simp; omega
  have h16 : (f : Int) < 16 := by omega
  have h00 : (0 : Int) ≤ (f : Int) := by omega
  clear hb
  go_enter Try.func28, Try.ntmps28
  go_wp2_with fail
  go_still_tail 13, (by kernel_rfl)
  go_wp2
  all_goals go_ret
  · exact ⟨rfl, HB.out.heard hf (by omega)⟩
  · exact ⟨rfl, HB.out.heard hf (by omega)⟩

set_option maxHeartbeats 4000000 in
theorem rwaiting_any {w : World} {B b : Nat} {me : Int} {l : List Rd} {h : Nat → Int} {a : Option Addr} {cap : Nat} (hb : RBook w B b me l h a cap) (hl : l.length ≤ 1000) :
    Calls Try.prog 32 #[.pointer (some ⟨b, 0, none⟩)] w fun e w' => ∃ o co, e = .returned (.slice o l.length co) ∧ Owns w' w.heap.size 3 1 o l.length co ((ids l).map (Value.int .i64)) ∧ Kp (fun _ => False) w w' := by
  have HB := Lib.hid hb
  have HR := Lib.hid hb.own.reads
  clear hb
  go_enter Try.func32, Try.ntmps32
  go_wp2_with fail
  go_loopw [3, 4] (fun o i wr => ∃ (k : Nat) (oa : Option Addr) (co : Nat), i = .int .i64 k ∧ k ≤ l.length ∧ o = .slice oa k co ∧ Owns wr w.heap.size 3 1 oa k co ((ids (l.take k)).map (Value.int .i64)) ∧ Kp (fun _ => False) w wr) (fun _ i _ => l.length - (intOf i).toNat)
  case atStart => exact ⟨0, none, 0, rfl, Nat.zero_le _, rfl, by simpa [ids] using Owns.nil _ _ 3 1, Kp.refl _ _⟩
  case round =>
    obtain ⟨k, oa, co, rfl, hk, rfl, ho, hK⟩ := hrel
    have c1 := cell_of (HB.out.no hK).blk 1 (v := .slice a l.length cap) rfl
    by_cases hlt : k < l.length
    · obtain ⟨g, rfl, d0, d1, d2⟩ := HR.out k hlt
      have hS := ids_take_succ l k hlt
      generalize l.getD k default = x at d0 d1 d2 hS
      have hg := World.block_lt_of_cell? _ _ d0
      have e0 := (hK.cell (p := ⟨g, k * 3, none⟩) hg (fun h => h)).trans d0
      have HS := Lib.hid hS
      clear d0 d1 d2 hS hg
      have hkI : (k : Int) < (l.length : Int) := by omega
      have hk0 : (0 : Int) ≤ (k : Int) := by omega
      go_wp2_with (at_builtin; refine Stop.mk ?_)
      unfold Stop
      have hKa := hK.alloc (.cells #[.int .i64 x.id] 3)
      have hsz := hK.size
      refine wpList_app rfl _ _ 23 rfl w.heap.size 3 info3 Try.underlying23 rfl (by decide) rfl (Owns.kp ho (((Kp.refl (fun _ => False) _).alloc _)) (fun _ _ h => h)) rfl (news := [x.id].map (Value.int .i64)) (by simp) (fun j u hu => ⟨_, rfl, ?c1⟩) (one_int _) (by unfold maxLen; omega) (by omega) (by simp; omega) ?_
      case c1 =>
        match j, hu with
        | 0, hu => simp at hu; subst hu; simp [Addr.add]
        | j + 1, hu => simp at hu
      intro a' cap' w3 ho3 hk3
      have hK3 : Kp (fun _ => False) w w3 := hKa.andThen hk3 (fun i hi e => by have := Owns.from ho e.symm; omega)
      rw [← List.map_append] at ho3
      clear hk3 ho hsz hKa hK
      go_wp2
      go_roundw
      case rel => first | exact ⟨k + 1, a', cap', by go_num, by omega, rfl, by rw [HS.out]; exact ho3, hK3⟩ | ((repeat apply Exists.intro); exact ⟨⟨k + 1, a', cap', by go_num, by omega, rfl, by rw [HS.out]; exact ho3, hK3⟩, rfl⟩)
      case measure => simp [intOf]; omega
    · obtain rfl : k = l.length := by omega
      rw [List.take_length] at ho
      have HO := Lib.hid ho
      clear ho
      go_wp2_with fail
      go_ret
      exact ⟨oa, co, rfl, HO.out, hK⟩
end Go.Proofs.Ytdkgbjbfmempdaa
