/-
  The state that the law of a client's calls keeps: the client, the numbers that were met, the last order that it took. No condition.
-/
import Derived.Test.YtjhefbkigmamfaaSw
import Derived.Test.YtjhefbkigmamfaaApr
import Derived.Test.YtjhefbkigmamfaaOpn
namespace Go.Proofs.Ytjhefbkigmamfaa.clientSame
open Go.ChangeShapes Go.WideShapes Go.ChangeAt Go.RowKit clientApart
set_option linter.unusedVariables false

/-- The blocks that are not the client's. -/
def NN (G Q : Nat) (o : OrdV) (j : Nat) : Prop := j = G ∨ j = Q ∨ blockOf o.da = some j
structure JW (w : World) (B b G Q : Nat) (A : Int) (t k sq : Nat) (ss : Int) (o : OrdV) : Prop where
  s : SW w B b (NN G Q o) A t k sq ss o
  m : IMap w G (ms A t)
  q : w.heap[Q]? = some (.cells o.cells.toArray 32 (0, 0))
  r : Row w o.da (bytes o.dl)
  ne : G ≠ Q
  da : ∀ g, blockOf o.da = some g → g ≠ G ∧ g ≠ Q ∧ g < w.heap.size ∧ B ≤ g
  hG : B ≤ G
  hQ : B ≤ Q
theorem JW.lt {w : World} {B b G Q : Nat} {A : Int} {t k sq : Nat} {ss : Int} {o : OrdV} (h : JW w B b G Q A t k sq ss o) : ∀ j, NN G Q o j → j < w.heap.size := by
  rintro j (rfl | rfl | e)
  · exact h.m.lt
  · exact lt_of_block h.q
  · exact (h.da j e).2.2.1
theorem JW.step {w w' : World} {B b G Q : Nat} {A : Int} {t k k' sq sq' : Nat} {ss ss' : Int} {o : OrdV} (h : JW w B b G Q A t k sq ss o) (hk : Kp (fun j => B ≤ j ∧ ¬ NN G Q o j) w w') (hs : SW w' B b (NN G Q o) A t k' sq' ss' o) : JW w' B b G Q A t k' sq' ss' o :=
  ⟨hs, h.m.kp hk (fun e => e.2 (.inl rfl)), hk.heap h.q (fun e => e.2 (.inr (.inl rfl))), h.r.kp hk (fun g hg e => e.2 (.inr (.inr hg))), h.ne, fun g hg => ⟨(h.da g hg).1, (h.da g hg).2.1, Nat.lt_of_lt_of_le (h.da g hg).2.2.1 hk.size, (h.da g hg).2.2.2⟩, h.hG, h.hQ⟩
theorem JW.no {w w' : World} {B b G Q : Nat} {A : Int} {t k sq : Nat} {ss : Int} {o : OrdV} (h : JW w B b G Q A t k sq ss o) (hk : Kp (fun _ => False) w w') : JW w' B b G Q A t k sq ss o :=
  h.step (hk.mono (fun _ _ h => h.elim)) (h.s.no hk)
/-- Behind an order that it took: the client is known of it, the law's own copy is made, in w3, and stored. -/
theorem JW.take {w w2 w3 : World} {B b G Q : Nat} {A : Int} {t sq sq' : Nat} {ss s2 : Int} {o : OrdV} (h : JW w B b G Q A t 0 sq ss o) (hk : Kp (fun j => B ≤ j ∧ ¬ NN G Q o j) w w2) {ki fr mo : Int} {dl : List Int} (hs : SW w2 B b (NN G Q o) A t 1 sq' s2 ⟨ki, fr, mo, none, dl, 0⟩)
    {na : Option Addr} {nc : Nat} (ho : Owns w3 w2.heap.size 5 1 na dl.length nc (bytes dl)) (hk3 : Kp (fun _ => False) w2 w3) (hw : B ≤ w.heap.size) :
    JW (w3.setRow Q #[.int .i64 ki, .int .i64 fr, .int .i64 mo, .slice na dl.length nc]) B b G Q A t 1 sq' s2 ⟨ki, fr, mo, na, dl, nc⟩ ∧ Kp (fun j => j = Q) w2 (w3.setRow Q #[.int .i64 ki, .int .i64 fr, .int .i64 mo, .slice na dl.length nc]) := by
  have hQ2 : w2.heap[Q]? = some (.cells o.cells.toArray 32 (0, 0)) := hk.heap h.q (fun e => e.2 (.inr (.inl rfl)))
  have hG2 : IMap w2 G (ms A t) := h.m.kp hk (fun e => e.2 (.inl rfl))
  have hQ3 := hk3.heap hQ2 (fun h => h)
  have hG3 := hG2.kp hk3 (fun h => h)
  have hkr : Kp (fun j => j = Q) w3 (w3.setRow Q #[.int .i64 ki, .int .i64 fr, .int .i64 mo, .slice na dl.length nc]) := (Kp.refl (fun j => j = Q) w3).setRow (Or.inl rfl) _
  have hna : ∀ g, blockOf na = some g → w2.heap.size ≤ g ∧ g < w3.heap.size := fun g hg => ho.from hg
  have hq2 := lt_of_block hQ2
  have hg2 := hG2.lt
  refine ⟨⟨?_, hG3.kp hkr h.ne, setRow_heap _ _ _ _ _ _ hQ3, ?_, h.ne, fun g hg => ?_, h.hG, h.hQ⟩, (hk3.mono (fun _ _ h => h.elim)).trans hkr⟩
  · have h3 := (hs.other (N' := fun j => NN G Q o j ∨ w2.heap.size ≤ j) (fun j h => h)).kp hk3 (fun j h => h.elim)
    have h4 := h3.kp hkr (fun j (e : j = Q) => .inl (.inl (.inr (.inl e))))
    obtain ⟨R, v, c, hn, r⟩ := h4
    refine ⟨R, v, c, fun j hj => hn j ?_, r⟩
    rcases hj with e | e | e
    · exact .inl (.inl e)
    · exact .inl (.inr (.inl e))
    · exact .inr (hna j e).1
  · exact ho.row.kp hkr (fun g hg (e : g = Q) => by have := (hna g hg).1; omega)
  · have h1 := hna g hg
    have h2 := hkr.size
    have h3 := hk.size
    exact ⟨by omega, by omega, by omega, by omega⟩
/-- Behind the calls: all are met. -/
theorem SW.more {w : World} {B b : Nat} {N : Nat → Prop} {A : Int} {t k sq : Nat} {ss : Int} {o : OrdV} (h : SW w B b N A t k sq ss o) : (t : Int) + k = ((t + k : Nat) : Int) := by simp
end Go.Proofs.Ytjhefbkigmamfaa.clientSame
