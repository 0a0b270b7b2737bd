/-
  Ready, walked once. No condition.
-/
import Derived.Test.YtdkgbjbfmempdaaDg
import Derived.Laws.EntriesVeiled
import Derived.Deep.RegionHeld3
namespace Go.Proofs.Ytdkgbjbfmempdaa
open Go.ChangeShapes Go.WideShapes Go.ChangeAt Go.RowKit Go.Deep
set_option linter.unusedVariables false

theorem Kp.made (w : World) (b : Nat) (sv : Value) : Kp (fun _ => False) w ((((w.alloc (Obj.cells #[Value.pointer (some ⟨b, 0, none⟩)] 24)).alloc (Obj.cells #[sv] 23)).alloc (Obj.cells #[Value.slice none 0 0] 35)).alloc
    (Obj.cells #[Value.func (Fn.func 22) #[] #[Value.pointer (some ⟨w.heap.size, 0, none⟩), Value.pointer (some ⟨w.heap.size + 1, 0, none⟩)]] 58)) := ((((Kp.refl _ w).alloc _).alloc _).alloc _).alloc _
theorem env_made (w : World) (b : Nat) (sv : Value) : Env ((((w.alloc (Obj.cells #[Value.pointer (some ⟨b, 0, none⟩)] 24)).alloc (Obj.cells #[sv] 23)).alloc (Obj.cells #[Value.slice none 0 0] 35)).alloc
    (Obj.cells #[Value.func (Fn.func 22) #[] #[Value.pointer (some ⟨w.heap.size, 0, none⟩), Value.pointer (some ⟨w.heap.size + 1, 0, none⟩)]] 58)) w.heap.size b w.heap.size (w.heap.size + 1) (w.heap.size + 1 + 1 + 1) (w.heap.size + 1 + 1) sv none 0 [] := by
  refine ⟨?_, ?_, ?_, ?_, Owns.nil _ _ _ _, Nat.le_refl _, by omega, by omega, by omega⟩
  · exact heap_old _ (heap_old _ (heap_old _ (heap_new _ _)))
  · exact heap_old _ (heap_old _ (by simpa using heap_new (w.alloc (Obj.cells #[Value.pointer (some ⟨b, 0, none⟩)] 24)) (Obj.cells #[sv] 23)))
  · have := heap_new (((w.alloc (Obj.cells #[Value.pointer (some ⟨b, 0, none⟩)] 24)).alloc (Obj.cells #[sv] 23)).alloc (Obj.cells #[Value.slice none 0 0] 35)) (Obj.cells #[Value.func (Fn.func 22) #[] #[Value.pointer (some ⟨w.heap.size, 0, none⟩), Value.pointer (some ⟨w.heap.size + 1, 0, none⟩)]] 58)
    simpa using this
  · refine heap_old _ ?_
    have := heap_new ((w.alloc (Obj.cells #[Value.pointer (some ⟨b, 0, none⟩)] 24)).alloc (Obj.cells #[sv] 23)) (Obj.cells #[Value.slice none 0 0] 35)
    simpa using this
theorem Owns.no {w w' : World} {B : Nat} {e : TypeId} {size : Nat} {a : Option Addr} {n cap : Nat} {xs : List Value} (h : Owns w B e size a n cap xs) (k : Kp (fun _ => False) w w') : Owns w' B e size a n cap xs := h.kp k (fun _ _ h => h)

theorem ready_end {w w2 : World} {B b : Nat} {me : Int} {l : List Rd} {h : Nat → Int} {a : Option Addr} {cap : Nat} (hb : Book w B b me l h a cap) {p : Rd → Bool} {c1 c2 c3 c4 : Nat} {sv : Value} {o2 : Option Addr} {co2 : Nat}
    (hO : Owns w2 B 57 3 a (keep p l).length cap (flat (keep p l))) (hE : Env w2 w.heap.size b c1 c2 c3 c4 sv o2 co2 ([] ++ toldAll p l)) (hK : Kp (fun j => w.heap.size ≤ j ∨ some j = blockOf a) w w2) (hbk : w2.heap[b]? = some (.cells (bookCells me true (.slice a l.length cap) h) 51 (0, 0))) :
    Owns (w2.setCell ⟨b, 2, none⟩ (.slice a (keep p l).length cap)) w.heap.size 39 2 o2 (toldAll p l).length co2 (flat2 (toldAll p l)) ∧ Book (w2.setCell ⟨b, 2, none⟩ (.slice a (keep p l).length cap)) B b me (keep p l) h a cap ∧
      Kp (Foot b a) w (w2.setCell ⟨b, 2, none⟩ (.slice a (keep p l).length cap)) := by
  have hs : Kp (fun k => k = b) w2 (w2.setCell ⟨b, 2, none⟩ (.slice a (keep p l).length cap)) := (Kp.refl (fun k => k = b) _).setCell (p := ⟨b, 2, none⟩) (Or.inl rfl) _
  have hbl := lt_of_block hb.blk
  refine ⟨hE.own.kp hs (fun g hg e => by have := (hE.own.from hg).1; omega), ⟨?_, hO.kp hs (fun g hg e => hb.ne (e ▸ hg)), hb.ge⟩, (hK.mono (S' := Foot b a) (fun k hk h => h.elim (fun h => by omega) Or.inr)).andThen hs (fun i hi e => Or.inl e)⟩
  have := heap_set hbk 2 (.slice a (keep p l).length cap)
  rw [bookCells_list] at this
  exact this

set_option maxHeartbeats 4000000 in
theorem ready_any {w : World} {B b : Nat} {me : Int} {l : List Rd} {h : Nat → Int} {a : Option Addr} {cap : Nat} (hb : Book w B b me l h a cap) (hl : l.length ≤ 1000) {x : Option Addr} {zs : List Int} (hx : Ints w x zs) (hxa : zs ≠ [] → ∀ g, blockOf x = some g → blockOf a ≠ some g) (mx : zs.length ≤ 35184372088832) (cx : Nat) :
    Calls Try.prog 13 #[.pointer (some ⟨b, 0, none⟩), .slice x zs.length cx] w fun e w' => ∃ o co, e = .returned (.slice o (toldAll (fun r => won zs (yes me h r.rd)) l).length co) ∧ Owns w' w.heap.size 39 2 o (toldAll (fun r => won zs (yes me h r.rd)) l).length co (flat2 (toldAll (fun r => won zs (yes me h r.rd)) l)) ∧
      Book w' B b me (keep (fun r => won zs (yes me h r.rd)) l) h a cap ∧ Kp (Foot b a) w w' := by
  have HB := Lib.hid hb
  have hC := fun c1 c2 c3 c4 => clo_of hb hx hxa mx cx c1 c2 c3 c4
  have HC := Lib.hid hC
  have hal : ∀ g, blockOf a = some g → g < w.heap.size := fun g hg => (hb.own.from hg).2
  have HAL := Lib.hid hal
  clear hb hx hxa hC hal
  generalize (fun r : Rd => won zs (yes me h r.rd)) = p at HC ⊢
  go_enter Try.func13, Try.ntmps13
  go_wp2_with (go_at_call 20; refine (none_no (HB.out.no (((Kp.refl _ _).alloc _).alloc _)).blk (m := true) rfl).mono ?_; rintro e w1 ⟨rfl, rfl⟩)
  have hE := env_made w b (.slice x zs.length cx)
  have hk := Kp.made w b (.slice x zs.length cx)
  generalize ((((w.alloc (Obj.cells #[Value.pointer (some ⟨b, 0, none⟩)] 24)).alloc (Obj.cells #[.slice x zs.length cx] 23)).alloc (Obj.cells #[Value.slice none 0 0] 35)).alloc
    (Obj.cells #[Value.func (Fn.func 22) #[] #[Value.pointer (some ⟨w.heap.size, 0, none⟩), Value.pointer (some ⟨w.heap.size + 1, 0, none⟩)]] 58)) = wA at hE hk ⊢
  have hbA := HB.out.no hk
  have b2 := cell_of hbA.blk 2 (v := .slice a l.length cap) rfl
  have e1 := cell_of hE.k1 0 (v := .pointer (some ⟨b, 0, none⟩)) rfl
  have hD := fun w' (hw' : Kp (fun _ => False) wA w') => deleteFunc_any (HC.out w.heap.size (w.heap.size + 1) (w.heap.size + 1 + 1 + 1) (w.heap.size + 1 + 1)) ((hk.andThen hw' (fun _ _ h => h)).mono (fun _ _ h => h.elim)) (hbA.own.no hw') HAL.out (hE.no hw') (by simp; omega)
  have HD := Lib.hid hD
  have HK := Lib.hid hk
  clear hE hk hbA hD
  have hbl := lt_of_block HB.out.blk
  have hne := HB.out.ne
  have HBL := Lib.hid hbl
  have HNE := Lib.hid hne
  clear hbl hne
  go_region_with (go_at_call 24; refine (HD.out _ (by repeat (first | exact Kp.refl _ _ | apply Kp.drew))).mono ?_; rintro e w2 ⟨o2, co2, rfl, hO2, hE2, hk2⟩; have hHO := Lib.hid hO2; have hHE := Lib.hid hE2; have hk3 : Kp (fun j => w.heap.size ≤ j ∨ some j = blockOf a) w w2 := (HK.out.mono (S' := fun j => w.heap.size ≤ j ∨ some j = blockOf a) (fun _ _ h => h.elim)).andThen ((Kp.drewN (Kp.refl _ wA) 1).trans hk2) (fun _ _ h => h); have hHK := Lib.hid hk3; have hbk := Lib.hid (hk3.heap HB.out.blk (fun h => h.elim (fun h => by have := HBL.out; omega) (fun h => HNE.out h.symm))); have p1 := cell_of hE2.k1 0 (v := .pointer (some ⟨b, 0, none⟩)) rfl; have p2 := cell_of hbk.out 2 (v := .slice a l.length cap) rfl; have p5 : (w2.setCell ⟨b, 2, none⟩ (.slice a (keep p l).length cap)).cell? ⟨w.heap.size, 0, none⟩ = some (.pointer (some ⟨b, 0, none⟩)) := cell_of (heap_set_other ⟨b, 2, none⟩ _ hE2.k1 (by have := HBL.out; simp; omega)) 0 rfl; have p3 := free_of hbk.out 2; have p4 := cell_of hE2.k4 0 (v := .slice o2 ([] ++ toldAll p l).length co2) rfl; clear hO2 hE2 hk2 hk3)
  all_goals go_wp2
  all_goals go_ret
  all_goals exact ⟨o2, co2, rfl, ready_end HB.out hHO.out hHE.out hHK.out hbk.out⟩
end Go.Proofs.Ytdkgbjbfmempdaa
