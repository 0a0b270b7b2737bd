/-
  The records of an answer, while a step writes into them. No condition.
-/
import Derived.Test.YtjhefbkigmamfaaPs
namespace Go.Proofs.Ytjhefbkigmamfaa
open Go.ChangeShapes Go.WideShapes Go.ChangeAt Go.RowKit
set_option linter.unusedVariables false

/-- A record's bytes are there, and may be written. -/
def Wrt (w : World) (r : RecV) : Prop := ∀ i, i < r.d.length → ∃ g o z, r.a = some ⟨g, o, none⟩ ∧ w.cell? ⟨g, o + i, none⟩ = some (.int .u8 z) ∧ w.frozen? ⟨g, o + i, none⟩ = false
theorem wrt_of {w : World} {r : RecV} (h : Row w r.a (bytes r.d)) (hc : ∀ g, blockOf r.a = some g → ∃ xs, w.heap[g]? = some (.cells xs 5 (0, 0))) : Wrt w r := by
  intro i hi
  obtain ⟨g, o, e, c⟩ := h i (.int .u8 (r.d.getD i 0)) (by unfold bytes; rw [List.getElem?_map, List.getElem?_eq_getElem hi]; simp [List.getD, List.getElem?_eq_getElem hi])
  obtain ⟨xs, hx⟩ := hc g (by rw [e]; rfl)
  exact ⟨g, o, _, e, c, free_of hx (o + i)⟩
theorem Wrt.kp {w w' : World} {r : RecV} (h : Wrt w r) {S : Nat → Prop} (hk : Kp S w w') (hn : ∀ g, blockOf r.a = some g → ¬ S g) : Wrt w' r := by
  intro i hi
  obtain ⟨g, o, z, e, c, f⟩ := h i hi
  have hb := World.block_lt_of_cell? (a := ⟨g, o + i, none⟩) w c
  have hs := hn g (by rw [e]; rfl)
  exact ⟨g, o, z, e, (hk.cell (p := ⟨g, o + i, none⟩) hb hs).trans c, (hk.frozen (p := ⟨g, o + i, none⟩) hb hs).trans f⟩
theorem keep_slice {w : World} {p q : Addr} {k : IntKind} {z : Int} {v : Value} {a : Option Addr} {n c : Nat} (hp : w.cell? p = some (.int k z)) (hq : w.cell? q = some (.slice a n c)) : (w.setCell p v).cell? q = some (.slice a n c) := by
  refine (World.cell?_setCell_other _ _ _ _ (fun e => ?_)).trans hq
  subst e
  rw [hp] at hq
  cases hq
theorem Wrt.set {w : World} {r : RecV} (h : Wrt w r) {p : Addr} (hp : (w.cell? p).isSome = true) (x : Int) : Wrt (w.setCell p (.int .u8 x)) r := by
  intro i hi
  obtain ⟨g, o, z, e, c, f⟩ := h i hi
  by_cases hpe : p = ⟨g, o + i, none⟩
  · subst hpe
    exact ⟨g, o, x, e, World.cell?_setCell_same _ _ _ c, by rw [World.frozen?_setCell]; exact f⟩
  · exact ⟨g, o, z, e, (World.cell?_setCell_other _ _ _ _ hpe).trans c, by rw [World.frozen?_setCell]; exact f⟩
structure MR (w0 wr : World) (B : Nat) (N N4 : Nat → Prop) (b rb T V : Nat) (vc : Array Value) (na : Option Addr) (new : List RecV) : Prop where
  p : PW wr B N4 b rb T
  v : wr.heap[V]? = some (.cells vc 47 (0, 0))
  r : Row wr na (new.map RecV.val)
  w : ∀ r ∈ new, Wrt wr r
  k : Kp (fun j => B ≤ j ∧ ¬ N j) w0 wr
theorem MR.no {w0 wr w' : World} {B : Nat} {N N4 : Nat → Prop} {b rb T V : Nat} {vc : Array Value} {na : Option Addr} {new : List RecV} (h : MR w0 wr B N N4 b rb T V vc na new) (hk : Kp (fun _ => False) wr w') : MR w0 w' B N N4 b rb T V vc na new :=
  ⟨h.p.no hk, hk.heap h.v (fun h => h), h.r.no hk, fun r hr => (h.w r hr).kp hk (fun _ _ h => h), h.k.trans (hk.mono (fun _ _ h => h.elim))⟩
theorem MR.store {w0 wr : World} {B : Nat} {N N4 : Nat → Prop} {b rb T V : Nat} {vc : Array Value} {na : Option Addr} {new : List RecV} (h : MR w0 wr B N N4 b rb T V vc na new) {g o : Nat} {z : Int} (hc : wr.cell? ⟨g, o, none⟩ = some (.int .u8 z)) (h4 : N4 g) (hB : B ≤ g) (h0 : w0.heap.size ≤ g) (hV : g ≠ V) (x : Int) : MR w0 (wr.setCell ⟨g, o, none⟩ (.int .u8 x)) B N N4 b rb T V vc na new := by
  have hk : Kp (fun j => j = g) wr (wr.setCell ⟨g, o, none⟩ (.int .u8 x)) := (Kp.refl (fun j => j = g) _).setCell (p := ⟨g, o, none⟩) (.inl rfl) _
  refine ⟨h.p.kp hk (fun j e => ⟨.inl (e ▸ h4), e ▸ hB⟩), hk.heap h.v (fun e => hV e.symm), fun i u hu => ?_, fun r hr => (h.w r hr).set (by rw [hc]; rfl) x, h.k.andThen hk (fun j hj (e : j = g) => by omega)⟩
  obtain ⟨nb, no, e, hcc⟩ := h.r i u hu
  refine ⟨nb, no, e, ?_⟩
  rw [List.getElem?_map] at hu
  obtain ⟨r, _, rfl⟩ := Option.map_eq_some_iff.1 hu
  exact keep_slice hc hcc
end Go.Proofs.Ytjhefbkigmamfaa
