/-
  What an argument's reading gives, for every program: a list's elements and a struct's fields, cell by cell, each with its own reading. No condition.
-/
import Derived.Test.YtjhefbkigmamfaaBase
import Derived.Deep.Slices
namespace Go.Proofs.Ytjhefbkigmamfaa
open Go.ChangeShapes Go.WideShapes Go.RowKit Go.Deep
set_option linter.unusedVariables false

section
variable {H : Type} {enc : TypeId × Value → H} {P : Program} {w : World} {base : Nat} {spare : Nat → Bool} {held : Bool}

/-- Each field begins within the struct. -/
def inside (P : Program) (t : TypeId) (fs : Array Field) : Bool := fs.all fun f => decide (f.offset < P.cellsOf t)

/-- A struct's cells: each field of one cell with its reading. -/
theorem open_fields {t : TypeId} {fs : Array Field} {fuel : Nat} {cs : List Value} {x : DataW H × List MemPlace} (hs : P.underlying t = some (.struct fs)) (hin : inside P t fs = true) (h : DataW.trod enc P w base spare held fuel t cs = some x) :
    cs.length = P.cellsOf t ∧ ∃ n, ∀ (j : Nat) (f : Field), fs[j]? = some f → P.cellsOf f.type = 1 → ∃ c y, cs[f.offset]? = some c ∧ DataW.trod enc P w base spare held n f.type [c] = some y := by
  obtain ⟨xs, n, _, _, hl, hlen, hg⟩ := DataW.trod_struct hs h
  refine ⟨hl, n, fun j f hj h1 => ?_⟩
  obtain ⟨hjl, hje⟩ := Array.getElem?_eq_some_iff.1 hj
  have hx := hg j f hj
  rw [h1, List.getElem?_eq_getElem (by omega)] at hx
  have ho : f.offset < cs.length := by
    rw [hl]
    unfold inside at hin
    rw [Array.all_eq_true] at hin
    have := hin j hjl
    rw [hje] at this
    simpa using this
  have e1 : List.take 1 (List.drop f.offset cs) = [cs[f.offset]] := by
    rw [List.drop_eq_getElem_cons ho]
    rfl
  rw [e1] at hx
  exact ⟨cs[f.offset], _, List.getElem?_eq_getElem ho, hx⟩

/-- A struct that came in by value. -/
theorem open_struct {r : Reach} {b0 : Nat} {t : TypeId} {fs : Array Field} {v : Value} {d : DataW H} {p : List MemPlace} (hs : P.underlying t = some (.struct fs)) (hin : inside P t fs = true)
    (hv : Value.okWide P w r b0 t v) (h : DataW.Trod enc P w base spare held t v d p) :
    ∃ cs : Array Value, v = .agg cs ∧ cs.size = P.cellsOf t ∧ ∃ n, ∀ (j : Nat) (f : Field), fs[j]? = some f → P.cellsOf f.type = 1 → ∃ c y, cs[f.offset]? = some c ∧ DataW.trod enc P w base spare held n f.type [c] = some y := by
  obtain ⟨cs, rfl, hsz⟩ := okWide_struct hs hv
  obtain ⟨fuel, hf⟩ := h
  obtain ⟨_, n, hg⟩ := open_fields hs hin hf
  exact ⟨cs, rfl, hsz, n, fun j f hj h1 => by
    obtain ⟨c, y, h2, h3⟩ := hg j f hj h1
    exact ⟨c, y, by simpa [Value.cells] using h2, h3⟩⟩

theorem spot_none {a : Addr} {v : Value} {j : Nat} (h : w.cell? (a.add j) = some v) (hj : j = 0) : a.spot = none := by
  subst hj
  simp only [Addr.add, World.cell?, if_true] at h
  cases hs : a.spot with
  | none => rfl
  | some s =>
    simp only [hs, Option.isSome_some, if_true] at h
    split at h <;> simp at h

/-- A list's elements: each by its cells and its own reading; its place, where there is an element. -/
theorem open_elems {t e : TypeId} {fuel : Nat} {v : Value} {x : DataW H × List MemPlace} (ht : P.underlying t = some (.slice e)) (hpos : 0 < P.cellsOf e) (h : DataW.trod enc P w base spare held fuel t [v] = some x) :
    ∃ a len cap, v = .slice a len cap ∧ len ≤ cap ∧ cap ≤ maxLen ∧ ∀ i, i < len → ∃ b off cs n y, a = some ⟨b, off, none⟩ ∧ cs.length = P.cellsOf e ∧
      (∀ j, j < P.cellsOf e → w.cell? ⟨b, off + i * P.cellsOf e + j, none⟩ = cs[j]?) ∧ DataW.trod enc P w base spare held n e cs = some y := by
  rcases open_slice ht h with ⟨hcs, _⟩ | ⟨a, len, cap, m, n, D, Pl, hcs, hb, hl, hm, hmm, _, hx⟩
  · simp at hcs
    subst hcs
    exact ⟨none, 0, 0, rfl, Nat.le_refl _, Nat.zero_le _, fun i hi => absurd hi (Nat.not_lt_zero _)⟩
  · simp at hcs
    subst hcs
    refine ⟨some a, len, cap, rfl, hl, hm, fun i hi => ?_⟩
    have hlm : len ≤ m := by rw [hmm]; split <;> omega
    obtain ⟨cs, hc, hy⟩ := hx i (by omega)
    obtain ⟨cs0, hc0, _⟩ := hx 0 (by omega)
    obtain ⟨_, hlen, hat⟩ := World.cells?_some hc
    obtain ⟨_, hlen0, hat0⟩ := World.cells?_some hc0
    obtain ⟨b, off, sp⟩ := a
    have hsp : sp = none := by
      have h0 := hat0 0 hpos
      rw [add_add, Nat.zero_mul, Nat.zero_add, List.getElem?_eq_getElem (by omega)] at h0
      exact spot_none (a := ⟨b, off, sp⟩) h0 rfl
    subst hsp
    refine ⟨b, off, cs, n, _, rfl, hlen, fun j hj => ?_, hy⟩
    have := hat j hj
    rw [add_plain, add_plain] at this
    exact this

/-- An int's cell. -/
theorem open_cell_int {n : Nat} {t : TypeId} {k : IntKind} {c : Value} {y : DataW H × List MemPlace} (ht : P.underlying t = some (.int k)) (h : DataW.trod enc P w base spare held n t [c] = some y) : ∃ z, c = .int k z ∧ (Lit.int k z).wf = true := by
  obtain ⟨z, e, _, hw⟩ := DataW.trod_int ht h
  exact ⟨z, by simpa using e, hw⟩
theorem open_cell_bool {n : Nat} {t : TypeId} {c : Value} {y : DataW H × List MemPlace} (ht : P.underlying t = some .bool) (h : DataW.trod enc P w base spare held n t [c] = some y) : ∃ z, c = .bool z := by
  cases n with
  | zero => simp [DataW.trod] at h
  | succ n =>
    unfold DataW.trod at h
    rw [ht] at h
    split at h <;> simp_all
end
end Go.Proofs.Ytjhefbkigmamfaa
