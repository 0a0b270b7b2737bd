/-
  slices.Index, slices.Contains and Ask, each walked once. No condition.
-/
import Derived.Test.YtdkgbjbfmempdaaHd
namespace Go.Proofs.Ytdkgbjbfmempdaa
open Go.ChangeShapes Go.WideShapes Go.ChangeAt Go.RowKit Go.Deep
set_option linter.unusedVariables false

set_option maxHeartbeats 4000000 in
theorem index_any {w : World} {a : Option Addr} {zs : List Int} (hI : Ints w a zs) (hm : zs.length ≤ 17592186043904) (cap : Nat) (x : Int) :
    Calls Try.prog 33 #[.slice a zs.length cap, .int .i64 x] w fun e w' => ∃ j : Int, e = .returned (.int .i64 j) ∧ decide (0 ≤ j) = decide (x ∈ zs) ∧ w' = w := by
  have HI := Lib.hid hI
  clear hI
  go_enter Try.func33, Try.ntmps33
  go_wp2_with fail
  go_loopw [8] (fun i wr => ∃ k : Nat, i = .int .i64 k ∧ k ≤ zs.length ∧ x ∉ zs.take k ∧ wr = w) (fun i _ => zs.length - (intOf i).toNat)
  case atStart => exact ⟨0, rfl, Nat.zero_le _, by simp, rfl⟩
  case round =>
    obtain ⟨k, rfl, hk, hn, rfl⟩ := hrel
    by_cases hlt : k < zs.length
    · obtain ⟨b, off, rfl, hc⟩ := HI.out.at hlt
      have hO := mem_take_succ zs k hlt x
      have hkI : (k : Int) < (zs.length : Int) := by omega
      have hk0 : (0 : Int) ≤ (k : Int) := by omega
      obtain ⟨z, hz⟩ : ∃ z, z = zs.getD k 0 := ⟨_, rfl⟩
      rw [← hz] at hc hO
      by_cases hx : x = z
      · have hmem : x ∈ zs := by
          rw [hx, hz]
          simp [List.getD, List.getElem?_eq_getElem hlt]
        have HM := Lib.hid hmem
        clear hO hz hn hmem
        subst hx
        go_wp2_with fail
        go_ret
        exact ⟨k, rfl, by rw [decide_eq_true HM.out, decide_eq_true (Int.natCast_nonneg k)], rfl⟩
      · have hne : (x == z) = false := by simpa using hx
        have hnn : x ∉ zs.take (k + 1) := by
          have h2 : decide (x ∈ zs.take (k + 1)) = false := by
            rw [hO, decide_eq_false hn, Bool.false_or]
            simpa using fun e => hx e.symm
          exact of_decide_eq_false h2
        have HN := Lib.hid hnn
        clear hO hz hn hnn
        go_wp2_with fail
        go_roundw
        case rel => exact ⟨k + 1, by go_num, by omega, HN.out, trivial⟩
        case measure => simp [intOf]; omega
    · have e : zs.take k = zs := List.take_of_length_le (by omega)
      rw [e] at hn
      have HN := Lib.hid hn
      clear hn e
      go_wp2_with fail
      go_ret
      exact ⟨-1, rfl, by rw [decide_eq_false HN.out]; rfl, rfl⟩

set_option maxHeartbeats 4000000 in
theorem contains_any {w : World} {a : Option Addr} {zs : List Int} (hI : Ints w a zs) (hm : zs.length ≤ 17592186043904) (cap : Nat) (x : Int) :
    Calls Try.prog 21 #[.slice a zs.length cap, .int .i64 x] w fun e w' => e = .returned (.bool (decide (x ∈ zs))) ∧ w' = w := by
  have HI := Lib.hid (index_any hI hm cap x)
  clear hI
  go_enter Try.func21, Try.ntmps21
  go_wp2_with (go_at_call 33; refine HI.out.mono ?_; rintro e w1 ⟨j, rfl, hj, rfl⟩)
  go_ret
  exact ⟨by rw [← hj]; rfl, rfl⟩

/-- What Ask answers, and who waits behind it. -/
def ask (l : List Rd) (id ix rd : Int) : Int × List Rd := if ix < 0 ∨ rd < 0 then (1, l) else if id ∈ ids l then (4, l) else if 100 ≤ l.length then (7, l) else (0, l ++ [⟨id, ix, rd⟩])
/-- A book's blocks. -/
def Foot (b : Nat) (a : Option Addr) : Nat → Prop := fun k => k = b ∨ some k = blockOf a
/-- The list lies where it lay, or in a new block. -/
def Moved (w : World) (a a' : Option Addr) : Prop := blockOf a' = blockOf a ∨ ∀ g, blockOf a' = some g → w.heap.size ≤ g

theorem bookCells_list (me : Int) (m : Bool) (l l' : Value) (h : Nat → Int) : (bookCells me m l h).setIfInBounds 2 l' = bookCells me m l' h := rfl

theorem Book.asked {w w4 : World} {B b : Nat} {me : Int} {l : List Rd} {h : Nat → Int} {a a' : Option Addr} {cap cap' : Nat} (k : Book w B b me l h a cap) {x : Rd} (hk : Kp (fun k => some k = blockOf a) w w4) (ho : Owns w4 B 57 3 a' (l.length + 1) cap' (flat l ++ flat [x])) :
    Book (w4.setCell ⟨b, 2, none⟩ (.slice a' (l.length + 1) cap')) B b me (l ++ [x]) h a' cap' ∧ Kp (Foot b a) w (w4.setCell ⟨b, 2, none⟩ (.slice a' (l.length + 1) cap')) := by
  have hh := hk.heap k.blk (fun e => k.ne e.symm)
  have hs : Kp (fun k => k = b) w4 (w4.setCell ⟨b, 2, none⟩ (.slice a' (l.length + 1) cap')) := (Kp.refl (fun k => k = b) _).setCell (p := ⟨b, 2, none⟩) (Or.inl rfl) _
  have hne : blockOf a' ≠ some b := by
    intro e
    obtain ⟨cur, hc⟩ := ho.type e
    have := hh.symm.trans hc
    cases this
  refine ⟨⟨?_, ?_, k.ge⟩, (hk.mono (S' := Foot b a) (fun _ _ h => Or.inr h)).andThen hs (fun i hi e => Or.inl e)⟩
  · have := heap_set hh 2 (.slice a' (l.length + 1) cap')
    rw [bookCells_list] at this
    simpa using this
  · rw [flat_append]
    simpa using ho.kp hs (fun g hg e => hne (e ▸ hg))

set_option maxHeartbeats 4000000 in
theorem ask_any {w : World} {B b : Nat} {me : Int} {l : List Rd} {h : Nat → Int} {a : Option Addr} {cap : Nat} (hb : Book w B b me l h a cap) (hl : l.length ≤ 1000) (id ix rd : Int) :
    Calls Try.prog 11 #[.pointer (some ⟨b, 0, none⟩), .int .i64 id, .int .i64 ix, .int .i64 rd] w fun e w' => ∃ a' cap', e = .returned (.int .i64 (ask l id ix rd).1) ∧ Book w' B b me (ask l id ix rd).2 h a' cap' ∧ Kp (Foot b a) w w' ∧ Moved w a a' := by
  have hn := none_no hb.blk (m := true) rfl
  have HN := Lib.hid hn
  have hw := waiting_any hb hl
  have HW := Lib.hid hw
  have HB := Lib.hid hb
  clear hn hw
  by_cases h1 : ix < 0 ∨ rd < 0
  · have ha : ask l id ix rd = (1, l) := by unfold ask; rw [if_pos h1]
    rw [ha]
    clear ha hb
    go_enter Try.func11, Try.ntmps11
    go_wp2_with (go_at_call 20; refine HN.out.mono ?_; rintro e w1 ⟨rfl, rfl⟩)
    all_goals go_ret
    all_goals exact ⟨a, cap, rfl, HB.out, Kp.refl _ _, Or.inl rfl⟩
  · have h2 : 0 ≤ ix := by omega
    have h3 : 0 ≤ rd := by omega
    by_cases h4 : id ∈ ids l
    · have ha : ask l id ix rd = (4, l) := by unfold ask; rw [if_neg h1, if_pos h4]
      rw [ha]
      have hd : decide (id ∈ ids l) = true := decide_eq_true h4
      clear ha hb h1 h4
      go_enter Try.func11, Try.ntmps11
      go_wp2_with (first | (go_at_call 20; refine HN.out.mono ?_; rintro e w1 ⟨rfl, rfl⟩) | (go_at_call 14; refine HW.out.mono ?_; rintro e w2 ⟨o, co, rfl, ho, hk⟩) | (go_at_call 21; rw [← ids_length l]; refine (contains_any ho.ints (by rw [ids_length]; omega) _ _).mono ?_; rintro e w3 ⟨rfl, rfl⟩))
      all_goals go_ret
      all_goals exact ⟨a, cap, rfl, HB.out.no hk, hk.mono (fun _ _ h => h.elim), Or.inl rfl⟩
    · have hd : decide (id ∈ ids l) = false := decide_eq_false h4
      by_cases h5 : 100 ≤ l.length
      · have ha : ask l id ix rd = (7, l) := by unfold ask; rw [if_neg h1, if_neg h4, if_pos h5]
        rw [ha]
        clear ha hb h1 h4
        go_enter Try.func11, Try.ntmps11
        go_wp2_with (first | (go_at_call 20; refine HN.out.mono ?_; rintro e w1 ⟨rfl, rfl⟩) | (go_at_call 14; refine HW.out.mono ?_; rintro e w2 ⟨o, co, rfl, ho, hk⟩; have c2 := (HB.out.no hk).cells.2.2) | (go_at_call 21; rw [← ids_length l]; refine (contains_any ho.ints (by rw [ids_length]; omega) _ _).mono ?_; rintro e w3 ⟨rfl, rfl⟩))
        all_goals go_ret
        all_goals exact ⟨a, cap, rfl, HB.out.no hk, hk.mono (fun _ _ h => h.elim), Or.inl rfl⟩
      · have ha : ask l id ix rd = (0, l ++ [⟨id, ix, rd⟩]) := by unfold ask; rw [if_neg h1, if_neg h4, if_neg h5]
        rw [ha]
        clear ha hb h1 h4
        go_enter Try.func11, Try.ntmps11
        go_wp2_with (first | (go_at_call 20; refine HN.out.mono ?_; rintro e w1 ⟨rfl, rfl⟩) | (go_at_call 14; refine HW.out.mono ?_; rintro e w2 ⟨o, co, rfl, ho, hk⟩; have c2 := (HB.out.no hk).cells.2.2) | (go_at_call 21; rw [← ids_length l]; refine (contains_any ho.ints (by rw [ids_length]; omega) _ _).mono ?_; rintro e w3 ⟨rfl, rfl⟩) | (at_builtin; refine Stop.mk ?_))
        unfold Stop
        have hb1 := HB.out
        have hlt := lt_of_block hb1.blk
        have hsz := hk.size
        have hge := hb1.ge
        have hk1 := hk.alloc (.cells #[.int .i64 id, .int .i64 ix, .int .i64 rd] 57)
        refine wpList_app_at rfl _ _ 47 rfl B 57 info57 Try.underlying47 rfl (by decide) rfl (hb1.own.kp hk1 (fun _ _ h => h)) rfl (news := flat [⟨id, ix, rd⟩]) rfl (fun j u hu => ?c1) (one_flat _) (by unfold maxLen; omega) (by omega) (by simp; omega) ?_
        case c1 =>
          match j, hu with
          | 0, hu => simp [flat] at hu; subst hu; simp [Addr.add]
          | 1, hu => simp [flat] at hu; subst hu; simp [Addr.add]
          | 2, hu => simp [flat] at hu; subst hu; simp [Addr.add]
          | j + 3, hu => simp [flat] at hu
        intro a' cap' w4 ho4 hk4 hwh
        have hK4 : Kp (fun k => some k = blockOf a) w1 w4 := (hk1.mono (S' := fun k => some k = blockOf a) (fun _ _ h => h.elim)).andThen hk4 (fun i hi e => e)
        have hmv : Moved w1 a a' := hwh.imp (fun h => h) (fun h g hg => by rw [h] at hg; simp at hg; omega)
        have hAs := hb1.asked hK4 ho4
        have hh := hK4.heap hb1.blk (fun e => hb1.ne e.symm)
        have f2 := free_of hh 2
        have d2 := cell_of hh 2 rfl
        have HA := Lib.hid hAs
        clear ho4 hk4 hwh hK4 hk1 hsz hge hlt hb1 hAs hh ho hk c2
        go_wp2
        go_ret
        exact ⟨a', cap', rfl, HA.out.1, HA.out.2, hmv⟩
end Go.Proofs.Ytdkgbjbfmempdaa
