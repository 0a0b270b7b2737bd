/-
  The variables that Ready's closures capture, and the closure that deletes, walked once. No condition.
-/
import Derived.Test.YtdkgbjbfmempdaaWn
namespace Go.Proofs.Ytdkgbjbfmempdaa
open Go.ChangeShapes Go.WideShapes Go.ChangeAt Go.RowKit Go.Deep
set_option linter.unusedVariables false

/-- What the closures of Ready capture: the book, the servers, 'won', 'out'. -/
structure Env (w : World) (E b c1 c2 c3 c4 : Nat) (sv : Value) (o : Option Addr) (co : Nat) (out : List (Int × Int)) : Prop where
  k1 : w.heap[c1]? = some (.cells #[.pointer (some ⟨b, 0, none⟩)] 24 (0, 0))
  k2 : w.heap[c2]? = some (.cells #[sv] 23 (0, 0))
  k3 : w.heap[c3]? = some (.cells #[.func (.func 22) #[] #[.pointer (some ⟨c1, 0, none⟩), .pointer (some ⟨c2, 0, none⟩)]] 58 (0, 0))
  k4 : w.heap[c4]? = some (.cells #[.slice o out.length co] 35 (0, 0))
  own : Owns w E 39 2 o out.length co (flat2 out)
  g1 : E ≤ c1
  g2 : E ≤ c2
  g3 : E ≤ c3
  g4 : E ≤ c4
theorem Env.kp {w w' : World} {E b c1 c2 c3 c4 : Nat} {sv : Value} {o : Option Addr} {co : Nat} {out : List (Int × Int)} (k : Env w E b c1 c2 c3 c4 sv o co out) {S : Nat → Prop} (h : Kp S w w') (hs : ∀ j, E ≤ j → j < w.heap.size → ¬ S j) : Env w' E b c1 c2 c3 c4 sv o co out :=
  ⟨h.heap k.k1 (hs _ k.g1 (lt_of_block k.k1)), h.heap k.k2 (hs _ k.g2 (lt_of_block k.k2)), h.heap k.k3 (hs _ k.g3 (lt_of_block k.k3)), h.heap k.k4 (hs _ k.g4 (lt_of_block k.k4)),
    k.own.kp h (fun b hb => hs b (k.own.from hb).1 (k.own.from hb).2), k.g1, k.g2, k.g3, k.g4⟩
theorem Env.no {w w' : World} {E b c1 c2 c3 c4 : Nat} {sv : Value} {o : Option Addr} {co : Nat} {out : List (Int × Int)} (k : Env w E b c1 c2 c3 c4 sv o co out) (h : Kp (fun _ => False) w w') : Env w' E b c1 c2 c3 c4 sv o co out := k.kp h (fun _ _ _ h => h)
theorem Env.store {w w4 : World} {E b c1 c2 c3 c4 : Nat} {sv : Value} {o o' : Option Addr} {co co' : Nat} {out : List (Int × Int)} {y : Int × Int} (k : Env w E b c1 c2 c3 c4 sv o co out)
    (h : Kp (fun j => some j = blockOf o) w w4) (ho : Owns w4 E 39 2 o' (out.length + 1) co' (flat2 out ++ flat2 [y])) :
    Env (w4.setCell ⟨c4, 0, none⟩ (.slice o' (out.length + 1) co')) E b c1 c2 c3 c4 sv o' co' (out ++ [y]) ∧ Kp (fun j => j = c4 ∨ some j = blockOf o) w (w4.setCell ⟨c4, 0, none⟩ (.slice o' (out.length + 1) co')) := by
  have t : ∀ {j cs t}, w.heap[j]? = some (.cells cs t (0, 0)) → t ≠ 39 → ¬ (some j = blockOf o) := by
    intro j cs t hj hne e
    obtain ⟨cur, hc⟩ := k.own.type e.symm
    have := hj.symm.trans hc
    simp at this
    exact hne this.2
  have p1 := h.heap k.k1 (t k.k1 (by decide))
  have p2 := h.heap k.k2 (t k.k2 (by decide))
  have p3 := h.heap k.k3 (t k.k3 (by decide))
  have p4 := h.heap k.k4 (t k.k4 (by decide))
  have t4 : ∀ {j cs t}, w4.heap[j]? = some (.cells cs t (0, 0)) → t ≠ 35 → j ≠ c4 := by
    intro j cs t hj hne e
    subst e
    have := hj.symm.trans p4
    simp at this
    exact hne this.2
  have hs : Kp (fun k => k = c4) w4 (w4.setCell ⟨c4, 0, none⟩ (.slice o' (out.length + 1) co')) := (Kp.refl (fun k => k = c4) _).setCell (p := ⟨c4, 0, none⟩) (Or.inl rfl) _
  refine ⟨⟨heap_set_other _ _ p1 (t4 p1 (by decide)), heap_set_other _ _ p2 (t4 p2 (by decide)), heap_set_other _ _ p3 (t4 p3 (by decide)), ?_, ?_, k.g1, k.g2, k.g3, k.g4⟩, ?_⟩
  · have := heap_set p4 0 (.slice o' (out.length + 1) co')
    simpa using this
  · rw [flat2_append]
    have := ho.kp hs (fun g hg e => by
      obtain ⟨cur, hc⟩ := ho.type hg
      exact t4 hc (by decide) e)
    simpa using this
  · exact (h.mono (S' := fun j => j = c4 ∨ some j = blockOf o) (fun j _ e => Or.inr e)).andThen hs (fun i hi e => Or.inl e)
theorem Env.foot {w : World} {E b c1 c2 c3 c4 : Nat} {sv : Value} {o : Option Addr} {co : Nat} {out : List (Int × Int)} (k : Env w E b c1 c2 c3 c4 sv o co out) (j : Nat) (h : j = c4 ∨ some j = blockOf o) : E ≤ j ∧ j < w.heap.size :=
  h.elim (fun e => by rw [e]; exact ⟨k.g4, lt_of_block k.k4⟩) (fun e => k.own.from e.symm)

/-- What is told of one that waits. -/
def told (b : Bool) (r : Rd) : List (Int × Int) := if b then [(r.id, r.ix)] else []

set_option maxHeartbeats 4000000 in
theorem deletes_any {w : World} {E b : Nat} {me : Int} {lv : Value} {h : Nat → Int} (hb : w.heap[b]? = some (.cells (bookCells me true lv h) 51 (0, 0))) {x : Option Addr} {zs : List Int} (hx : Ints w x zs) (mx : zs.length ≤ 35184372088832) {cx : Nat} {c1 c2 c3 c4 : Nat}
    {o : Option Addr} {co : Nat} {out : List (Int × Int)} (hE : Env w E b c1 c2 c3 c4 (.slice x zs.length cx) o co out) (hout : out.length ≤ 1000) (r : Rd) :
    Calls Try.prog 25 #[.agg #[.int .i64 r.id, .int .i64 r.ix, .int .i64 r.rd], .pointer (some ⟨c3, 0, none⟩), .pointer (some ⟨c4, 0, none⟩)] w fun e w' => ∃ o' co', e = .returned (.bool (won zs (yes me h r.rd))) ∧
      Env w' E b c1 c2 c3 c4 (.slice x zs.length cx) o' co' (out ++ told (won zs (yes me h r.rd)) r) ∧ Kp (fun j => j = c4 ∨ some j = blockOf o) w w' := by
  have hw : ∀ w', Kp (fun _ => False) w w' → Calls Try.prog 22 #[.agg #[.int .i64 r.id, .int .i64 r.ix, .int .i64 r.rd], .pointer (some ⟨c1, 0, none⟩), .pointer (some ⟨c2, 0, none⟩)] w' fun e w2 => e = .returned (.bool (won zs (yes me h r.rd))) ∧ Kp (fun _ => False) w' w2 :=
    fun w' hk => wins_any (hk.heap hb (fun h => h)) (hx.no hk) mx cx c1 c2 (cell_of (hk.heap hE.k1 (fun h => h)) 0 rfl) (cell_of (hk.heap hE.k2 (fun h => h)) 0 rfl) r
  have HW := Lib.hid hw
  have HE := Lib.hid hE
  have e3 := cell_of hE.k3 0 (v := .func (.func 22) #[] #[.pointer (some ⟨c1, 0, none⟩), .pointer (some ⟨c2, 0, none⟩)]) rfl
  have hl3 := lt_of_block hE.k3
  clear hw hb hx hE
  generalize won zs (yes me h r.rd) = wb at HW ⊢
  cases wb with
  | false =>
    go_enter Try.func25, Try.ntmps25
    go_wp2_with (go_at_call 22; refine (HW.out _ ((Kp.refl _ _).alloc _)).mono ?_; rintro e w2 ⟨rfl, hk⟩)
    go_ret
    have hk2 := ((Kp.refl (fun _ => False) w).alloc (.cells #[.int .i64 r.id, .int .i64 r.ix, .int .i64 r.rd] 57)).andThen hk (fun _ _ h => h)
    exact ⟨o, co, rfl, by simpa [told] using HE.out.no hk2, hk2.mono (fun _ _ h => h.elim)⟩
  | true =>
    go_enter Try.func25, Try.ntmps25
    go_wp2_with (first | (go_at_call 22; refine (HW.out _ ((Kp.refl _ _).alloc _)).mono ?_; rintro e w2 ⟨rfl, hk⟩; have hE2 := Lib.hid (HE.out.no (((Kp.refl (fun _ => False) w).alloc (.cells #[.int .i64 r.id, .int .i64 r.ix, .int .i64 r.rd] 57)).andThen hk (fun _ _ h => h))); have e4 := cell_of hE2.out.k4 0 (v := .slice o out.length co) rfl; have hbx := Lib.hid (hk.heap (heap_new w (.cells #[.int .i64 r.id, .int .i64 r.ix, .int .i64 r.rd] 57)) (fun h => h)); have q0 := cell_of hbx.out 0 (v := .int .i64 r.id) rfl; have q1 := cell_of hbx.out 1 (v := .int .i64 r.ix) rfl) | (at_builtin; refine Stop.mk ?_))
    unfold Stop
    have hE3 := (hE2.out.no ((Kp.refl (fun _ => False) w2).alloc (.cells #[.int .i64 r.id, .int .i64 r.ix] 39)))
    have hk3 : Kp (fun _ => False) w (w2.alloc (.cells #[.int .i64 r.id, .int .i64 r.ix] 39)) := ((((Kp.refl (fun _ => False) w).alloc (.cells #[.int .i64 r.id, .int .i64 r.ix, .int .i64 r.rd] 57)).andThen hk (fun _ _ h => h))).alloc _
    have hlt := lt_of_block hE3.k4
    have hg4 := hE3.g4
    refine wpList_app rfl _ _ 35 rfl E 39 info39 Try.underlying35 rfl (by decide) rfl hE3.own rfl (news := flat2 [(r.id, r.ix)]) rfl (fun j u hu => ⟨_, rfl, ?c1⟩) (one_flat2 _) (by unfold maxLen; omega) (by omega) (by simp at hlt ⊢; omega) ?_
    case c1 =>
      match j, hu with
      | 0, hu => simp [flat2] at hu; subst hu; simp [Addr.add]
      | 1, hu => simp [flat2] at hu; subst hu; simp [Addr.add]
      | j + 2, hu => simp [flat2] at hu
    intro a' cap' w4 ho4 hk4
    have hst := hE3.store hk4 ho4
    have h4 := hk4.heap hE3.k4 (fun e => by
      obtain ⟨cur, hc⟩ := hE3.own.type e.symm
      have := hE3.k4.symm.trans hc
      simp at this)
    have f4 := free_of h4 0
    have d4 := cell_of h4 0 (v := .slice o out.length co) rfl
    have HS := Lib.hid hst
    have HK3 := Lib.hid hk3
    clear hst h4 ho4 hk4 hE3 hk3 hlt hg4 e4 q0 q1 hk
    go_wp2
    go_ret
    exact ⟨a', cap', rfl, by simpa [told] using HS.out.1, (HK3.out.mono (S' := fun j => j = c4 ∨ some j = blockOf o) (fun _ _ h => h.elim)).andThen HS.out.2 (fun i hi e => e)⟩
end Go.Proofs.Ytdkgbjbfmempdaa
