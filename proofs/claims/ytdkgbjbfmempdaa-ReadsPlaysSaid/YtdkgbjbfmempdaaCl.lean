/-
  Clear, walked once. No condition.
-/
import Derived.Test.YtdkgbjbfmempdaaAk
namespace Go.Proofs.Ytdkgbjbfmempdaa
open Go.ChangeShapes Go.WideShapes Go.ChangeAt Go.RowKit Go.Deep
set_option linter.unusedVariables false

def setAll (cs : Array Value) : Nat → List Value → Array Value
  | _, [] => cs
  | o, v :: vs => setAll (cs.setIfInBounds o v) (o + 1) vs
theorem heap_sets {b : Nat} {t : TypeId} : ∀ (vs : List Value) (o : Nat) (w : World) (cs : Array Value), w.heap[b]? = some (.cells cs t (0, 0)) → (w.setCells b o vs).heap[b]? = some (.cells (setAll cs o vs) t (0, 0))
  | [], _, _, _, h => h
  | v :: vs, o, w, cs, h => heap_sets vs (o + 1) _ _ (heap_set h o v)
theorem Kp.setCells {S : Nat → Prop} {a : World} {b : Nat} (hp : S b ∨ a.heap.size ≤ b) : ∀ (vs : List Value) (o : Nat) (w : World), Kp S a w → Kp S a (w.setCells b o vs)
  | [], _, _, h => h
  | v :: vs, o, w, h => Kp.setCells hp vs (o + 1) _ (h.setCell (p := ⟨b, o, none⟩) hp v)
theorem setAll_book (me : Int) (m : Bool) (l : Value) (h h' : Nat → Int) : setAll (bookCells me m l h) 3 (sixteen h') = bookCells me m l h' := by
  simp [setAll, sixteen, bookCells]

theorem there_of {w : World} {b : Nat} {cs : Array Value} {t : TypeId} (h : w.heap[b]? = some (.cells cs t (0, 0))) {o n : Nat} (hn : o + n ≤ cs.size) : w.there b o n := by
  intro j hj
  refine ⟨?_, free_of h _⟩
  have : cs[o + j]? = some (cs[o + j]'(by omega)) := Array.getElem?_eq_getElem _
  rw [cell_of h (o + j) this]
  rfl

set_option maxHeartbeats 4000000 in
theorem clear_any {w : World} {B b : Nat} {me : Int} {l : List Rd} {h : Nat → Int} {a : Option Addr} {cap : Nat} (hb : Book w B b me l h a cap) (hl : l.length ≤ 1000) :
    Calls Try.prog 17 #[.pointer (some ⟨b, 0, none⟩)] w fun e w' => ∃ o co, e = .returned (.slice o l.length co) ∧ Owns w' w.heap.size 3 1 o l.length co ((ids l).map (Value.int .i64)) ∧ Book w' B b me [] mute none 0 ∧ Kp (Foot b a) w w' := by
  have hw := waiting_any hb hl
  have HW := Lib.hid hw
  have HB := Lib.hid hb
  clear hw hb
  go_enter Try.func17, Try.ntmps17
  go_wp2_with (first | (go_at_call 20; refine (none_no (HB.out.no hk).blk (m := true) rfl).mono ?_; rintro e w1 ⟨rfl, rfl⟩) | (go_at_call 14; refine HW.out.mono ?_; rintro e w2 ⟨o, co, rfl, ho, hk⟩) | (go_at_call 19; refine (noRounds_any _).mono ?_; rintro e w3 ⟨rfl, hk3⟩; have f2 := free_of ((HB.out.no hk).no hk3).blk 2; have c2 := cell_of ((HB.out.no hk).no hk3).blk 2 rfl) | (refine wpList_store_mid rfl 49 _ _ rfl b 3 (sixteen mute).toArray rfl rfl ?_ size49 ones ?_))
  · exact there_of (heap_set ((HB.out.no hk).no hk3).blk 2 (.slice none 0 0)) (Nat.le_refl 19)
  · have hB3 := (HB.out.no hk).no hk3
    have hh := heap_sets (sixteen mute) 3 _ _ (heap_set hB3.blk 2 (.slice none 0 0))
    rw [bookCells_list, setAll_book] at hh
    have hK : Kp (fun k => k = b) w3 ((w3.setCell ⟨b, 2, none⟩ (.slice none 0 0)).setCells b 3 (sixteen mute)) := Kp.setCells (S := fun k => k = b) (Or.inl rfl) _ _ _ ((Kp.refl (fun k => k = b) _).setCell (p := ⟨b, 2, none⟩) (Or.inl rfl) _)
    have hbl := lt_of_block HB.out.blk
    have ho3 := (ho.kp hk3 (fun _ _ h => h)).kp hK (fun g hg e => by have := Owns.from ho hg; omega)
    have hKw : Kp (Foot b a) w ((w3.setCell ⟨b, 2, none⟩ (.slice none 0 0)).setCells b 3 (sixteen mute)) := (((hk.andThen hk3 (fun _ _ h => h)).mono (S' := Foot b a) (fun _ _ h => h.elim))).andThen hK (fun i hi e => Or.inl e)
    have hge := HB.out.ge
    go_ret
    exact ⟨o, co, rfl, ho3, ⟨hh, Owns.nil _ _ _ _, hge⟩, hKw⟩
end Go.Proofs.Ytdkgbjbfmempdaa
