/-
  A list of ints that came in: what memory holds of it, and how long it can be. No condition.
-/
import Derived.Test.YtjhefbkigmamfaaCb
import Derived.Test.YtjhefbkigmamfaaFin
import Derived.Test.YtjhefbkigmamfaaOpen
namespace Go.Proofs.Ytjhefbkigmamfaa
open Go.ChangeShapes Go.WideShapes Go.ChangeAt Go.RowKit Go.Deep
set_option linter.unusedVariables false

theorem open_il {H : Type} {enc : TypeId × Value → H} {W : World} {base : Nat} {v : Value} {d : DataW H} {p : List MemPlace} (ho : Value.okWide Try.prog W .any base 22 v)
    (h : DataW.Trod enc Try.prog W 0 (fun _ => true) true 22 v d p) : ∃ a zs cap, v = .slice a zs.length cap ∧ Row W a (ints zs) ∧ (zs = [] ∨ ∃ el sp, d = .slice el sp ∧ el.length = zs.length) := by
  obtain ⟨a0, len, cap, rfl⟩ := okWide_slice Try.underlying22 ho
  obtain ⟨fuel, hf⟩ := h
  have h3 : Try.prog.cellsOf 3 = 1 := by kernel_rfl
  have hf' : DataW.trod enc Try.prog W 0 (fun _ => true) true fuel 22 [.slice a0 len cap] = some (d, p) := hf
  obtain ⟨a, len', cap', e, _, _, hel⟩ := open_elems Try.underlying22 (by rw [h3]; exact Nat.one_pos) hf'
  cases e
  have key : ∀ i, i < len → ∃ z : Int, ∃ b off, a0 = some ⟨b, off, none⟩ ∧ W.cell? ⟨b, off + i, none⟩ = some (.int .i64 z) := by
    intro i hi
    obtain ⟨b, off, cs, n, y, ha, hl, hc, ht⟩ := hel i hi
    rw [h3] at hl hc
    match cs, hl with
    | [c], _ =>
      obtain ⟨z, rfl, _⟩ := open_cell_int Try.underlying3 ht
      have := hc 0 (by omega)
      exact ⟨z, b, off, ha, by simpa using this⟩
  obtain ⟨Z, hZ⟩ := choose_lt key
  have hlen : ((List.range len).map Z).length = len := by simp
  refine ⟨a0, (List.range len).map Z, cap, by rw [hlen], ?_, ?_⟩
  · intro i v hv
    have hi : i < len := by
      have := (List.getElem?_eq_some_iff.1 hv).1
      simpa [ints] using this
    obtain ⟨b, off, ha, hc⟩ := hZ i hi
    refine ⟨b, off, ha, hc.trans ?_⟩
    rw [← hv]
    simp [ints, hi]
  · rcases open_slice Try.underlying22 hf' with ⟨hcs, _⟩ | ⟨a, len', cap', m, n, D, Pl, hcs, _, _, _, _, hx, _⟩
    · left
      simp at hcs
      simp [hcs.2.1]
    · right
      simp at hcs
      obtain ⟨_, rfl, _⟩ := hcs
      simp only [Prod.mk.injEq] at hx
      exact ⟨_, _, hx.1, by simp⟩
theorem il_le {H : Type} {ts : List TypeId} {ds : List (DataW H)} (hsz : (DataW.weightsEach Try.prog ts ds).all (· ≤ reachBytes) = true) {j : Nat} {d : DataW H} (ht : ts[j]? = some 22) (hd : ds[j]? = some d) {zs : List Int}
    (h : zs = [] ∨ ∃ el sp, d = .slice el sp ∧ el.length = zs.length) : zs.length ≤ 17592186043904 := by
  rcases h with rfl | ⟨el, sp, rfl, hl⟩
  · simp
  · have h1 := sized_slice hsz ht hd Try.underlying22
    rw [show Try.prog.bytesOf 3 = 8 by kernel_rfl, show reachBytes = 140737488351232 by decide] at h1
    omega
end Go.Proofs.Ytjhefbkigmamfaa
